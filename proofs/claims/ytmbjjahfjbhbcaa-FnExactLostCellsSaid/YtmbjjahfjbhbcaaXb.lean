/- Functions of the program at hand. -/
import Derived.Test.YtmbjjahfjbhbcaaPb
import Derived.Test.YtmbjjahfjbhbcaaRw
set_option linter.unusedVariables false
set_option linter.unusedSimpArgs false
set_option maxRecDepth 100000
namespace Go.RR
open Go Go.Proofs

/-! ### function 68: loop.example/g01322/spec.l06Repeats -/
noncomputable def f68_c : Code := match Try.f68.body with | some c => c | none => .skip
noncomputable def f68_X : Ctx := ⟨TT, phiOf [(81, c81)], noPsi⟩
def f68_LV : List (Nat × Keep) := [(2, ([0, 1, 2, 7], [], []))]
def f68_rv : List ResultVar := [.tmp 6]
noncomputable def f68_L (r : List A) : Nat → AS → Option (List A) := L f68_X (cnOf f68_LV) f68_c (K0 TT f68_rv) r
theorem f68_ctx : CtxOK Try.prog f68_X := ctx_of tab mix ⟨⟨Try.call81, f81_sound⟩, trivial⟩
noncomputable def f68_s2 (x0 : Int) (x1 : Int) (x2 : Int) (x3 : Int) (x4 : Int) (x5 : (Nat → Int)) : AS := ⟨[(0, .a (.ptr 0 [] (0))), (1, .a (.v (.int .i64 x0))), (2, .a (.v (.int .i64 x1))), (7, .a (.v (.int .i64 x2)))], [(0, some ⟨false, .box (.rc [.v (.int .i8 x3), .v (.int .i8 x4), .fa 144 .u8 x5])⟩)], 1⟩
noncomputable def l68 (r : Bool) : List A := [.v (.bool r)]
theorem f68_step2 (x0 : Int) (x1 : Int) (x2 : Int) (x3 : Int) (x4 : Int) (x5 : (Nat → Int)) (r : List A) (h : (cond (decide (x2 < 144)) (cond (!(s81 x3 x4 x5 x2)) (f68_L r 2 (f68_s2 x0 x1 (IntKind.wrap .i64 (x2 + 1)) x3 x4 x5)) (cond (decide ((IntKind.wrap .i64 ((Int.tmod x2 12) + x0)) ≥ (IntKind.wrap .i64 x3))) (f68_L r 2 (f68_s2 x0 x1 (IntKind.wrap .i64 (x2 + 1)) x3 x4 x5)) (cond (decide ((IntKind.wrap .i64 ((IntKind.wrap .i64 (Int.tdiv x2 12)) + x1)) ≥ (IntKind.wrap .i64 x4))) (f68_L r 2 (f68_s2 x0 x1 (IntKind.wrap .i64 (x2 + 1)) x3 x4 x5)) (cond (inB x2 144) (cond (inB (IntKind.wrap .i64 ((IntKind.wrap .i64 ((Int.tmod x2 12) + x0)) + (IntKind.wrap .i64 (12 * (IntKind.wrap .i64 ((IntKind.wrap .i64 (Int.tdiv x2 12)) + x1)))))) 144) (cond ((x5 (Int.toNat x2)) != 0) (cond ((x5 (Int.toNat (IntKind.wrap .i64 ((IntKind.wrap .i64 ((Int.tmod x2 12) + x0)) + (IntKind.wrap .i64 (12 * (IntKind.wrap .i64 ((IntKind.wrap .i64 (Int.tdiv x2 12)) + x1)))))))) != 0) (cond ((x5 (Int.toNat x2)) != (x5 (Int.toNat (IntKind.wrap .i64 ((IntKind.wrap .i64 ((Int.tmod x2 12) + x0)) + (IntKind.wrap .i64 (12 * (IntKind.wrap .i64 ((IntKind.wrap .i64 (Int.tdiv x2 12)) + x1))))))))) (some [.v (.bool false)]) (f68_L r 2 (f68_s2 x0 x1 (IntKind.wrap .i64 (x2 + 1)) x3 x4 x5))) (f68_L r 2 (f68_s2 x0 x1 (IntKind.wrap .i64 (x2 + 1)) x3 x4 x5))) (f68_L r 2 (f68_s2 x0 x1 (IntKind.wrap .i64 (x2 + 1)) x3 x4 x5))) none) none)))) (some [.v (.bool true)])) = some r) : f68_L r 2 (f68_s2 x0 x1 x2 x3 x4 x5) = some r :=
  step_of' h (by kernel_rfl)
noncomputable def f68_n2 (x0 : Int) (x1 : Int) (x2 : Int) (x3 : Int) (x4 : Int) (x5 : (Nat → Int)) : Option ((Int × Int × Int × Int × Int × (Nat → Int)) ⊕ Bool) := (cond (decide (x2 < 144)) (cond (!(s81 x3 x4 x5 x2)) (some (Sum.inl (x0, x1, (IntKind.wrap .i64 (x2 + 1)), x3, x4, x5))) (cond (decide ((IntKind.wrap .i64 ((Int.tmod x2 12) + x0)) ≥ (IntKind.wrap .i64 x3))) (some (Sum.inl (x0, x1, (IntKind.wrap .i64 (x2 + 1)), x3, x4, x5))) (cond (decide ((IntKind.wrap .i64 ((IntKind.wrap .i64 (Int.tdiv x2 12)) + x1)) ≥ (IntKind.wrap .i64 x4))) (some (Sum.inl (x0, x1, (IntKind.wrap .i64 (x2 + 1)), x3, x4, x5))) (cond (inB x2 144) (cond (inB (IntKind.wrap .i64 ((IntKind.wrap .i64 ((Int.tmod x2 12) + x0)) + (IntKind.wrap .i64 (12 * (IntKind.wrap .i64 ((IntKind.wrap .i64 (Int.tdiv x2 12)) + x1)))))) 144) (cond ((x5 (Int.toNat x2)) != 0) (cond ((x5 (Int.toNat (IntKind.wrap .i64 ((IntKind.wrap .i64 ((Int.tmod x2 12) + x0)) + (IntKind.wrap .i64 (12 * (IntKind.wrap .i64 ((IntKind.wrap .i64 (Int.tdiv x2 12)) + x1)))))))) != 0) (cond ((x5 (Int.toNat x2)) != (x5 (Int.toNat (IntKind.wrap .i64 ((IntKind.wrap .i64 ((Int.tmod x2 12) + x0)) + (IntKind.wrap .i64 (12 * (IntKind.wrap .i64 ((IntKind.wrap .i64 (Int.tdiv x2 12)) + x1))))))))) (some (Sum.inr false)) (some (Sum.inl (x0, x1, (IntKind.wrap .i64 (x2 + 1)), x3, x4, x5)))) (some (Sum.inl (x0, x1, (IntKind.wrap .i64 (x2 + 1)), x3, x4, x5)))) (some (Sum.inl (x0, x1, (IntKind.wrap .i64 (x2 + 1)), x3, x4, x5)))) none) none)))) (some (Sum.inr true)))
noncomputable def f68_run2 (x : (Int × Int × Int × Int × Int × (Nat → Int))) : Option Bool := iter (fun x => f68_n2 x.1 x.2.1 x.2.2.1 x.2.2.2.1 x.2.2.2.2.1 x.2.2.2.2.2) FU x
noncomputable def f68_G2 (r : List A) (x : (Int × Int × Int × Int × Int × (Nat → Int))) : Prop := f68_L r 2 (f68_s2 x.1 x.2.1 x.2.2.1 x.2.2.2.1 x.2.2.2.2.1 x.2.2.2.2.2) = some r
noncomputable def f68_S2 (r : List A) : Bool → Prop := fun v => r = l68 v
theorem f68_go2 (r : List A) : ∀ x, sem (f68_S2 r) (f68_run2 x) → f68_G2 r x :=
  fun x => iter_sound (step := fun x => f68_n2 x.1 x.2.1 x.2.2.1 x.2.2.2.1 x.2.2.2.2.1 x.2.2.2.2.2) (fun x h => by
    unfold f68_n2 at h
    exact f68_step2 x.1 x.2.1 x.2.2.1 x.2.2.2.1 x.2.2.2.2.1 x.2.2.2.2.2 r ((sem_cond h (fun h => (sem_cond h (fun h => sem_got h fun q => q) (fun h => (sem_cond h (fun h => sem_got h fun q => q) (fun h => (sem_cond h (fun h => sem_got h fun q => q) (fun h => (sem_cond h (fun h => (sem_cond h (fun h => (sem_cond h (fun h => (sem_cond h (fun h => (sem_cond h (fun h => sem_got h fun q => some_eq q) (fun h => sem_got h fun q => q))) (fun h => sem_got h fun q => q))) (fun h => sem_got h fun q => q))) (fun h => sem_none h))) (fun h => sem_none h))))))))) (fun h => sem_got h fun q => some_eq q)))) FU x
noncomputable def s68 (a0 : Int) (a1 : Int) (a2 : (Nat → Int)) (a3 : Int) (a4 : Int) : Option Bool := (f68_run2 (a3, a4, 0, a0, a1, a2))
theorem f68_top (a0 : Int) (a1 : Int) (a2 : (Nat → Int)) (a3 : Int) (a4 : Int) (r : List A) : ev f68_X (lpc (cnOf f68_LV) (f68_L r)) f68_c (K0 TT f68_rv) (enter [.ref (.rc [.v (.int .i8 a0), .v (.int .i8 a1), .fa 144 .u8 a2]), .v (.int .i64 a3), .v (.int .i64 a4)]) = (f68_L r 2 (f68_s2 a3 a4 0 a0 a1 a2)) := by kernel_rfl
theorem s68_ok (a0 : Int) (a1 : Int) (a2 : (Nat → Int)) (a3 : Int) (a4 : Int) (v : Bool) (h : s68 a0 a1 a2 a3 a4 = some v) : (f68_L (l68 v) 2 (f68_s2 a3 a4 0 a0 a1 a2)) = some (l68 v) := by
  unfold s68 at h
  have go : ∀ r, sem (fun v => r = l68 v) ((f68_run2 (a3, a4, 0, a0, a1, a2))) → (f68_L r 2 (f68_s2 a3 a4 0 a0 a1 a2)) = some r := fun r h => f68_go2 r _ h
  exact go (l68 v) ⟨v, h, rfl⟩
noncomputable def c68 : List A → ACall
  | [.ref (.rc [.v (.int .i8 a0), .v (.int .i8 a1), .fa 144 .u8 a2]), .v (.int .i64 a3), .v (.int .i64 a4)] => ⟨Bool, s68 a0 a1 a2 a3 a4, fun r => .one (.v (.bool r))⟩
  | _ => ACall.fail
theorem f68_sound : Sound Try.prog 68 c68 := by
  refine sound_good f68_ctx f68_LV 3 Try.func68 (c := f68_c) (by kernel_rfl) (rv := f68_rv) (by kernel_rfl) (by kernel_rfl) (by kernel_rfl) (by kernel_rfl) fun rs => ?_
  unfold c68
  split
  · rename_i a0 a1 a2 a3 a4; intro v h; exact ⟨rfl, l68 v, rfl, (f68_top a0 a1 a2 a3 a4 _).trans (s68_ok a0 a1 a2 a3 a4 v h)⟩
  · intro v h; cases h

/-! ### function 30: loop.example/g01322/spec.RepeatsBy -/
noncomputable def f30_c : Code := match Try.f30.body with | some c => c | none => .skip
noncomputable def f30_X : Ctx := ⟨TT, phiOf [(47, c47), (57, c57), (68, c68)], noPsi⟩
def f30_LV : List (Nat × Keep) := []
def f30_rv : List ResultVar := [.tmp 6, .tmp 7]
noncomputable def f30_L (r : List A) : Nat → AS → Option (List A) := L f30_X (cnOf f30_LV) f30_c (K0 TT f30_rv) r
theorem f30_ctx : CtxOK Try.prog f30_X := ctx_of tab mix ⟨⟨Try.call47, f47_sound⟩, ⟨Try.call57, f57_sound⟩, ⟨Try.call68, f68_sound⟩, trivial⟩
noncomputable def s30 (a0 : Int) (a1 : Int) (a2 : (Nat → Int)) (a3 : Int) (a4 : Int) : Option (Bool × Int) := (cond (!(s47 a0 a1 a2)) (some (false, 1)) (cond (!(s57 a3 0 (IntKind.wrap .i64 a0))) (some (false, 2)) (cond (!(s57 a4 0 (IntKind.wrap .i64 a1))) (some (false, 2)) (cond (a3 == 0) (cond (a4 == 0) (some (false, 2)) (Option.bind (s68 a0 a1 a2 a3 a4) fun r1 => (some (r1, 0)))) (Option.bind (s68 a0 a1 a2 a3 a4) fun r2 => (some (r2, 0)))))))
theorem f30_top (a0 : Int) (a1 : Int) (a2 : (Nat → Int)) (a3 : Int) (a4 : Int) (r : List A) : ev f30_X (lpc (cnOf f30_LV) (f30_L r)) f30_c (K0 TT f30_rv) (enter [.rc [.v (.int .i8 a0), .v (.int .i8 a1), .fa 144 .u8 a2], .v (.int .i64 a3), .v (.int .i64 a4)]) = (cond (!(s47 a0 a1 a2)) (some [.v (.bool false), .v (.int .i64 1)]) (cond (!(s57 a3 0 (IntKind.wrap .i64 a0))) (some [.v (.bool false), .v (.int .i64 2)]) (cond (!(s57 a4 0 (IntKind.wrap .i64 a1))) (some [.v (.bool false), .v (.int .i64 2)]) (cond (a3 == 0) (cond (a4 == 0) (some [.v (.bool false), .v (.int .i64 2)]) (Option.bind (s68 a0 a1 a2 a3 a4) fun r1 => (some [.v (.bool r1), .v (.int .i64 0)]))) (Option.bind (s68 a0 a1 a2 a3 a4) fun r2 => (some [.v (.bool r2), .v (.int .i64 0)])))))) := by kernel_rfl
noncomputable def l30 (r : (Bool × Int)) : List A := [.v (.bool r.1), .v (.int .i64 r.2)]
theorem s30_ok (a0 : Int) (a1 : Int) (a2 : (Nat → Int)) (a3 : Int) (a4 : Int) (v : (Bool × Int)) (h : s30 a0 a1 a2 a3 a4 = some v) : (cond (!(s47 a0 a1 a2)) (some [.v (.bool false), .v (.int .i64 1)]) (cond (!(s57 a3 0 (IntKind.wrap .i64 a0))) (some [.v (.bool false), .v (.int .i64 2)]) (cond (!(s57 a4 0 (IntKind.wrap .i64 a1))) (some [.v (.bool false), .v (.int .i64 2)]) (cond (a3 == 0) (cond (a4 == 0) (some [.v (.bool false), .v (.int .i64 2)]) (Option.bind (s68 a0 a1 a2 a3 a4) fun r1 => (some [.v (.bool r1), .v (.int .i64 0)]))) (Option.bind (s68 a0 a1 a2 a3 a4) fun r2 => (some [.v (.bool r2), .v (.int .i64 0)])))))) = some (l30 v) := by
  have e : (cond (!(s47 a0 a1 a2)) (some [.v (.bool false), .v (.int .i64 1)]) (cond (!(s57 a3 0 (IntKind.wrap .i64 a0))) (some [.v (.bool false), .v (.int .i64 2)]) (cond (!(s57 a4 0 (IntKind.wrap .i64 a1))) (some [.v (.bool false), .v (.int .i64 2)]) (cond (a3 == 0) (cond (a4 == 0) (some [.v (.bool false), .v (.int .i64 2)]) (Option.bind (s68 a0 a1 a2 a3 a4) fun r1 => (some [.v (.bool r1), .v (.int .i64 0)]))) (Option.bind (s68 a0 a1 a2 a3 a4) fun r2 => (some [.v (.bool r2), .v (.int .i64 0)])))))) = Option.map l30 (s30 a0 a1 a2 a3 a4) := by
    unfold s30
    exact (cond_app (Option.map l30) rfl (cond_app (Option.map l30) rfl (cond_app (Option.map l30) rfl (cond_app (Option.map l30) (cond_app (Option.map l30) rfl (bind_app fun _ => rfl)) (bind_app fun _ => rfl)))))
  rw [e, h]; rfl
noncomputable def c30 : List A → ACall
  | [.rc [.v (.int .i8 a0), .v (.int .i8 a1), .fa 144 .u8 a2], .v (.int .i64 a3), .v (.int .i64 a4)] => ⟨(Bool × Int), s30 a0 a1 a2 a3 a4, fun r => .tup [.v (.bool r.1), .v (.int .i64 r.2)]⟩
  | _ => ACall.fail
theorem f30_sound : Sound Try.prog 30 c30 := by
  refine sound_good f30_ctx f30_LV 3 Try.func30 (c := f30_c) (by kernel_rfl) (rv := f30_rv) (by kernel_rfl) (by kernel_rfl) (by kernel_rfl) (by kernel_rfl) fun rs => ?_
  unfold c30
  split
  · rename_i a0 a1 a2 a3 a4; intro v h; exact ⟨rfl, l30 v, rfl, (f30_top a0 a1 a2 a3 a4 _).trans (s30_ok a0 a1 a2 a3 a4 v h)⟩
  · intro v h; cases h

/-! ### function 69: (loop.example/g01322/impl.Picture).size -/
noncomputable def f69_c : Code := match Try.f69.body with | some c => c | none => .skip
noncomputable def f69_X : Ctx := ⟨TT, phiOf [], noPsi⟩
def f69_LV : List (Nat × Keep) := []
def f69_rv : List ResultVar := [.tmp 2, .tmp 3]
noncomputable def f69_L (r : List A) : Nat → AS → Option (List A) := L f69_X (cnOf f69_LV) f69_c (K0 TT f69_rv) r
theorem f69_ctx : CtxOK Try.prog f69_X := ctx_of tab mix trivial
noncomputable def s69 (a0 : Int) (a1 : Int) (a2 : (Nat → Int)) : (Int × Int) := ((IntKind.wrap .i64 a0), (IntKind.wrap .i64 a1))
theorem f69_top (a0 : Int) (a1 : Int) (a2 : (Nat → Int)) (r : List A) : ev f69_X (lpc (cnOf f69_LV) (f69_L r)) f69_c (K0 TT f69_rv) (enter [.rc [.v (.int .i8 a0), .v (.int .i8 a1), .fa 144 .u8 a2]]) = (some [.v (.int .i64 (IntKind.wrap .i64 a0)), .v (.int .i64 (IntKind.wrap .i64 a1))]) := by kernel_rfl
noncomputable def l69 (r : (Int × Int)) : List A := [.v (.int .i64 r.1), .v (.int .i64 r.2)]
theorem s69_ok (a0 : Int) (a1 : Int) (a2 : (Nat → Int)) : (some [.v (.int .i64 (IntKind.wrap .i64 a0)), .v (.int .i64 (IntKind.wrap .i64 a1))]) = some (l69 (s69 a0 a1 a2)) := by
  unfold s69
  exact rfl
noncomputable def c69 : List A → ACall
  | [.rc [.v (.int .i8 a0), .v (.int .i8 a1), .fa 144 .u8 a2]] => ⟨(Int × Int), some (s69 a0 a1 a2), fun r => .tup [.v (.int .i64 r.1), .v (.int .i64 r.2)]⟩
  | _ => ACall.fail
theorem f69_sound : Sound Try.prog 69 c69 := by
  refine sound_good f69_ctx f69_LV 1 Try.func69 (c := f69_c) (by kernel_rfl) (rv := f69_rv) (by kernel_rfl) (by kernel_rfl) (by kernel_rfl) (by kernel_rfl) fun rs => ?_
  unfold c69
  split
  · rename_i a0 a1 a2; intro v h; cases h; exact ⟨rfl, l69 (s69 a0 a1 a2), rfl, (f69_top a0 a1 a2 _).trans (s69_ok a0 a1 a2)⟩
  · intro v h; cases h

/-! ### function 90: (loop.example/g01322/impl.Image).cells -/
noncomputable def f90_c : Code := match Try.f90.body with | some c => c | none => .skip
noncomputable def f90_X : Ctx := ⟨TT, phiOf [(96, c96)], noPsi⟩
def f90_LV : List (Nat × Keep) := [(3, ([1, 3, 6], [], []))]
def f90_rv : List ResultVar := [.tmp 2]
noncomputable def f90_L (r : List A) : Nat → AS → Option (List A) := L f90_X (cnOf f90_LV) f90_c (K0 TT f90_rv) r
theorem f90_ctx : CtxOK Try.prog f90_X := ctx_of tab mix ⟨⟨Try.call96, f96_sound⟩, trivial⟩
noncomputable def f90_s3 (x0 : Int) (x1 : Int) (x2 : Int) (x3 : (Nat → Nat → Int)) (x4 : (List Int)) : AS := ⟨[(1, .a (.ptr 0 [] (0))), (3, .a (.sl 1)), (6, .a (.v (.int .i64 x0)))], [(0, some ⟨true, .box (.rc [.v (.int .i8 x1), .v (.int .i8 x2), .fa2 144 3 .u8 x3])⟩), (1, some ⟨true, .arr (.one (.i .i64)) x4⟩)], 2⟩
noncomputable def l90 (r : (List Int)) : List A := [.lst (.one (.i .i64)) r]
theorem f90_step3 (x0 : Int) (x1 : Int) (x2 : Int) (x3 : (Nat → Nat → Int)) (x4 : (List Int)) (r : List A) (h : (cond (decide (x0 < 144)) (cond (s96 (Int.tmod x0 12) (IntKind.wrap .i64 (Int.tdiv x0 12)) x1 x2) (cond (fits ((List.length (x4 : List Int) + List.length ([x0] : List Int)) * 8)) (f90_L r 3 (f90_s3 (IntKind.wrap .i64 (x0 + 1)) x1 x2 x3 (x4 ++ [x0]))) none) (f90_L r 3 (f90_s3 (IntKind.wrap .i64 (x0 + 1)) x1 x2 x3 x4))) (some [.lst (.one (.i .i64)) x4])) = some r) : f90_L r 3 (f90_s3 x0 x1 x2 x3 x4) = some r :=
  step_of' h (by kernel_rfl)
noncomputable def f90_n3 (x0 : Int) (x1 : Int) (x2 : Int) (x3 : (Nat → Nat → Int)) (x4 : (List Int)) : Option ((Int × Int × Int × (Nat → Nat → Int) × (List Int)) ⊕ (List Int)) := (cond (decide (x0 < 144)) (cond (s96 (Int.tmod x0 12) (IntKind.wrap .i64 (Int.tdiv x0 12)) x1 x2) (cond (fits ((List.length (x4 : List Int) + List.length ([x0] : List Int)) * 8)) (some (Sum.inl ((IntKind.wrap .i64 (x0 + 1)), x1, x2, x3, (x4 ++ [x0])))) none) (some (Sum.inl ((IntKind.wrap .i64 (x0 + 1)), x1, x2, x3, x4)))) (some (Sum.inr x4)))
noncomputable def f90_run3 (x : (Int × Int × Int × (Nat → Nat → Int) × (List Int))) : Option (List Int) := iter (fun x => f90_n3 x.1 x.2.1 x.2.2.1 x.2.2.2.1 x.2.2.2.2) FU x
noncomputable def f90_G3 (r : List A) (x : (Int × Int × Int × (Nat → Nat → Int) × (List Int))) : Prop := f90_L r 3 (f90_s3 x.1 x.2.1 x.2.2.1 x.2.2.2.1 x.2.2.2.2) = some r
noncomputable def f90_S3 (r : List A) : (List Int) → Prop := fun v => r = l90 v
theorem f90_go3 (r : List A) : ∀ x, sem (f90_S3 r) (f90_run3 x) → f90_G3 r x :=
  fun x => iter_sound (step := fun x => f90_n3 x.1 x.2.1 x.2.2.1 x.2.2.2.1 x.2.2.2.2) (fun x h => by
    unfold f90_n3 at h
    exact f90_step3 x.1 x.2.1 x.2.2.1 x.2.2.2.1 x.2.2.2.2 r ((sem_cond h (fun h => (sem_cond h (fun h => (sem_cond h (fun h => sem_got h fun q => q) (fun h => sem_none h))) (fun h => sem_got h fun q => q))) (fun h => sem_got h fun q => some_eq q)))) FU x
noncomputable def s90 (a0 : Int) (a1 : Int) (a2 : (Nat → Nat → Int)) : Option (List Int) := (f90_run3 (0, a0, a1, a2, []))
theorem f90_top (a0 : Int) (a1 : Int) (a2 : (Nat → Nat → Int)) (r : List A) : ev f90_X (lpc (cnOf f90_LV) (f90_L r)) f90_c (K0 TT f90_rv) (enter [.rc [.v (.int .i8 a0), .v (.int .i8 a1), .fa2 144 3 .u8 a2]]) = (f90_L r 3 (f90_s3 0 a0 a1 a2 [])) := by kernel_rfl
theorem s90_ok (a0 : Int) (a1 : Int) (a2 : (Nat → Nat → Int)) (v : (List Int)) (h : s90 a0 a1 a2 = some v) : (f90_L (l90 v) 3 (f90_s3 0 a0 a1 a2 [])) = some (l90 v) := by
  unfold s90 at h
  have go : ∀ r, sem (fun v => r = l90 v) ((f90_run3 (0, a0, a1, a2, []))) → (f90_L r 3 (f90_s3 0 a0 a1 a2 [])) = some r := fun r h => f90_go3 r _ h
  exact go (l90 v) ⟨v, h, rfl⟩
noncomputable def c90 : List A → ACall
  | [.rc [.v (.int .i8 a0), .v (.int .i8 a1), .fa2 144 3 .u8 a2]] => ⟨(List Int), s90 a0 a1 a2, fun r => .one (.lst (.one (.i .i64)) r)⟩
  | _ => ACall.fail
theorem f90_sound : Sound Try.prog 90 c90 := by
  refine sound_good f90_ctx f90_LV 1 Try.func90 (c := f90_c) (by kernel_rfl) (rv := f90_rv) (by kernel_rfl) (by kernel_rfl) (by kernel_rfl) (by kernel_rfl) fun rs => ?_
  unfold c90
  split
  · rename_i a0 a1 a2; intro v h; exact ⟨rfl, l90 v, rfl, (f90_top a0 a1 a2 _).trans (s90_ok a0 a1 a2 v h)⟩
  · intro v h; cases h

/-! ### function 67: (loop.example/g01322/impl.Picture).numbers -/
noncomputable def f67_c : Code := match Try.f67.body with | some c => c | none => .skip
noncomputable def f67_X : Ctx := ⟨TT, phiOf [(90, c90)], noPsi⟩
def f67_LV : List (Nat × Keep) := []
def f67_rv : List ResultVar := [.tmp 2]
noncomputable def f67_L (r : List A) : Nat → AS → Option (List A) := L f67_X (cnOf f67_LV) f67_c (K0 TT f67_rv) r
theorem f67_ctx : CtxOK Try.prog f67_X := ctx_of tab mix ⟨⟨Try.call90, f90_sound⟩, trivial⟩
noncomputable def s67 (a0 : Int) (a1 : Int) (a2 : (Nat → Int)) : Option (List Int) := (Option.bind (s90 a0 a1 zF2) fun r1 => (some r1))
theorem f67_top (a0 : Int) (a1 : Int) (a2 : (Nat → Int)) (r : List A) : ev f67_X (lpc (cnOf f67_LV) (f67_L r)) f67_c (K0 TT f67_rv) (enter [.rc [.v (.int .i8 a0), .v (.int .i8 a1), .fa 144 .u8 a2]]) = (Option.bind (s90 a0 a1 zF2) fun r1 => (some [.lst (.one (.i .i64)) r1])) := by kernel_rfl
noncomputable def l67 (r : (List Int)) : List A := [.lst (.one (.i .i64)) r]
theorem s67_ok (a0 : Int) (a1 : Int) (a2 : (Nat → Int)) (v : (List Int)) (h : s67 a0 a1 a2 = some v) : (Option.bind (s90 a0 a1 zF2) fun r1 => (some [.lst (.one (.i .i64)) r1])) = some (l67 v) := by
  have e : (Option.bind (s90 a0 a1 zF2) fun r1 => (some [.lst (.one (.i .i64)) r1])) = Option.map l67 (s67 a0 a1 a2) := by
    unfold s67
    exact (bind_app fun _ => rfl)
  rw [e, h]; rfl
noncomputable def c67 : List A → ACall
  | [.rc [.v (.int .i8 a0), .v (.int .i8 a1), .fa 144 .u8 a2]] => ⟨(List Int), s67 a0 a1 a2, fun r => .one (.lst (.one (.i .i64)) r)⟩
  | _ => ACall.fail
theorem f67_sound : Sound Try.prog 67 c67 := by
  refine sound_good f67_ctx f67_LV 1 Try.func67 (c := f67_c) (by kernel_rfl) (rv := f67_rv) (by kernel_rfl) (by kernel_rfl) (by kernel_rfl) (by kernel_rfl) fun rs => ?_
  unfold c67
  split
  · rename_i a0 a1 a2; intro v h; exact ⟨rfl, l67 v, rfl, (f67_top a0 a1 a2 _).trans (s67_ok a0 a1 a2 v h)⟩
  · intro v h; cases h

/-! ### function 84: (loop.example/g01322/impl.Picture).at -/
noncomputable def f84_c : Code := match Try.f84.body with | some c => c | none => .skip
noncomputable def f84_X : Ctx := ⟨TT, phiOf [], noPsi⟩
def f84_LV : List (Nat × Keep) := []
def f84_rv : List ResultVar := [.tmp 6]
noncomputable def f84_L (r : List A) : Nat → AS → Option (List A) := L f84_X (cnOf f84_LV) f84_c (K0 TT f84_rv) r
theorem f84_ctx : CtxOK Try.prog f84_X := ctx_of tab mix trivial
noncomputable def s84 (a0 : Int) (a1 : Int) (a2 : (Nat → Int)) (a3 : Int) (a4 : Int) : Option Int := (cond (inB (IntKind.wrap .i64 (a3 + (IntKind.wrap .i64 (12 * a4)))) 144) (some (a2 (Int.toNat (IntKind.wrap .i64 (a3 + (IntKind.wrap .i64 (12 * a4))))))) none)
theorem f84_top (a0 : Int) (a1 : Int) (a2 : (Nat → Int)) (a3 : Int) (a4 : Int) (r : List A) : ev f84_X (lpc (cnOf f84_LV) (f84_L r)) f84_c (K0 TT f84_rv) (enter [.rc [.v (.int .i8 a0), .v (.int .i8 a1), .fa 144 .u8 a2], .v (.int .i64 a3), .v (.int .i64 a4)]) = (cond (inB (IntKind.wrap .i64 (a3 + (IntKind.wrap .i64 (12 * a4)))) 144) (some [.v (.int .u8 (a2 (Int.toNat (IntKind.wrap .i64 (a3 + (IntKind.wrap .i64 (12 * a4)))))))]) none) := by kernel_rfl
noncomputable def l84 (r : Int) : List A := [.v (.int .u8 r)]
theorem s84_ok (a0 : Int) (a1 : Int) (a2 : (Nat → Int)) (a3 : Int) (a4 : Int) (v : Int) (h : s84 a0 a1 a2 a3 a4 = some v) : (cond (inB (IntKind.wrap .i64 (a3 + (IntKind.wrap .i64 (12 * a4)))) 144) (some [.v (.int .u8 (a2 (Int.toNat (IntKind.wrap .i64 (a3 + (IntKind.wrap .i64 (12 * a4)))))))]) none) = some (l84 v) := by
  have e : (cond (inB (IntKind.wrap .i64 (a3 + (IntKind.wrap .i64 (12 * a4)))) 144) (some [.v (.int .u8 (a2 (Int.toNat (IntKind.wrap .i64 (a3 + (IntKind.wrap .i64 (12 * a4)))))))]) none) = Option.map l84 (s84 a0 a1 a2 a3 a4) := by
    unfold s84
    exact (cond_app (Option.map l84) rfl rfl)
  rw [e, h]; rfl
noncomputable def c84 : List A → ACall
  | [.rc [.v (.int .i8 a0), .v (.int .i8 a1), .fa 144 .u8 a2], .v (.int .i64 a3), .v (.int .i64 a4)] => ⟨Int, s84 a0 a1 a2 a3 a4, fun r => .one (.v (.int .u8 r))⟩
  | _ => ACall.fail
theorem f84_sound : Sound Try.prog 84 c84 := by
  refine sound_good f84_ctx f84_LV 3 Try.func84 (c := f84_c) (by kernel_rfl) (rv := f84_rv) (by kernel_rfl) (by kernel_rfl) (by kernel_rfl) (by kernel_rfl) fun rs => ?_
  unfold c84
  split
  · rename_i a0 a1 a2 a3 a4; intro v h; exact ⟨rfl, l84 v, rfl, (f84_top a0 a1 a2 a3 a4 _).trans (s84_ok a0 a1 a2 a3 a4 v h)⟩
  · intro v h; cases h

/-! ### function 70: (loop.example/g01322/impl.Picture).repeats -/
noncomputable def f70_c : Code := match Try.f70.body with | some c => c | none => .skip
noncomputable def f70_X : Ctx := ⟨TT, phiOf [(67, c67), (83, c83), (84, c84)], noPsi⟩
def f70_LV : List (Nat × Keep) := [(2, ([1, 2, 3, 14, 15, 16], [], []))]
def f70_rv : List ResultVar := [.tmp 6]
noncomputable def f70_L (r : List A) : Nat → AS → Option (List A) := L f70_X (cnOf f70_LV) f70_c (K0 TT f70_rv) r
theorem f70_ctx : CtxOK Try.prog f70_X := ctx_of tab mix ⟨⟨Try.call67, f67_sound⟩, ⟨Try.call83, f83_sound⟩, ⟨Try.call84, f84_sound⟩, trivial⟩
noncomputable def f70_s2 (x0 : Int) (x1 : Int) (x2 : Int) (x3 : Int) (x4 : Int) (x5 : Int) (x6 : (Nat → Int)) (x7 : (List Int)) : AS := ⟨[(1, .a (.v (.int .i64 x0))), (2, .a (.v (.int .i64 x1))), (3, .a (.ptr 0 [] (0))), (14, .a (.sl 1)), (15, .a (.v (.int .i64 x2))), (16, .a (.v (.int .i64 x3)))], [(0, some ⟨true, .box (.rc [.v (.int .i8 x4), .v (.int .i8 x5), .fa 144 .u8 x6])⟩), (1, some ⟨true, .arr (.one (.i .i64)) x7⟩)], 2⟩
noncomputable def l70 (r : Bool) : List A := [.v (.bool r)]
theorem f70_step2 (x0 : Int) (x1 : Int) (x2 : Int) (x3 : Int) (x4 : Int) (x5 : Int) (x6 : (Nat → Int)) (x7 : (List Int)) (r : List A) (h : (cond (decide (x3 < x2)) (cond (inB x3 (List.length x7)) (cond (!(s83 x4 x5 x6 (IntKind.wrap .i64 ((Int.tmod (List.getD x7 (Int.toNat x3) 0) 12) + x0)) (IntKind.wrap .i64 ((IntKind.wrap .i64 (Int.tdiv (List.getD x7 (Int.toNat x3) 0) 12)) + x1)))) (f70_L r 2 (f70_s2 x0 x1 x2 (IntKind.wrap .i64 (x3 + 1)) x4 x5 x6 x7)) (cond (inB (List.getD x7 (Int.toNat x3) 0) 144) (Option.bind (s84 x4 x5 x6 (IntKind.wrap .i64 ((Int.tmod (List.getD x7 (Int.toNat x3) 0) 12) + x0)) (IntKind.wrap .i64 ((IntKind.wrap .i64 (Int.tdiv (List.getD x7 (Int.toNat x3) 0) 12)) + x1))) fun r2 => (cond ((x6 (Int.toNat (List.getD x7 (Int.toNat x3) 0))) != 0) (cond (r2 != 0) (cond ((x6 (Int.toNat (List.getD x7 (Int.toNat x3) 0))) != r2) (some [.v (.bool false)]) (f70_L r 2 (f70_s2 x0 x1 x2 (IntKind.wrap .i64 (x3 + 1)) x4 x5 x6 x7))) (f70_L r 2 (f70_s2 x0 x1 x2 (IntKind.wrap .i64 (x3 + 1)) x4 x5 x6 x7))) (f70_L r 2 (f70_s2 x0 x1 x2 (IntKind.wrap .i64 (x3 + 1)) x4 x5 x6 x7)))) none)) none) (some [.v (.bool true)])) = some r) : f70_L r 2 (f70_s2 x0 x1 x2 x3 x4 x5 x6 x7) = some r :=
  step_of' h (by kernel_rfl)
noncomputable def f70_n2 (x0 : Int) (x1 : Int) (x2 : Int) (x3 : Int) (x4 : Int) (x5 : Int) (x6 : (Nat → Int)) (x7 : (List Int)) : Option ((Int × Int × Int × Int × Int × Int × (Nat → Int) × (List Int)) ⊕ Bool) := (cond (decide (x3 < x2)) (cond (inB x3 (List.length x7)) (cond (!(s83 x4 x5 x6 (IntKind.wrap .i64 ((Int.tmod (List.getD x7 (Int.toNat x3) 0) 12) + x0)) (IntKind.wrap .i64 ((IntKind.wrap .i64 (Int.tdiv (List.getD x7 (Int.toNat x3) 0) 12)) + x1)))) (some (Sum.inl (x0, x1, x2, (IntKind.wrap .i64 (x3 + 1)), x4, x5, x6, x7))) (cond (inB (List.getD x7 (Int.toNat x3) 0) 144) (Option.bind (s84 x4 x5 x6 (IntKind.wrap .i64 ((Int.tmod (List.getD x7 (Int.toNat x3) 0) 12) + x0)) (IntKind.wrap .i64 ((IntKind.wrap .i64 (Int.tdiv (List.getD x7 (Int.toNat x3) 0) 12)) + x1))) fun r2 => (cond ((x6 (Int.toNat (List.getD x7 (Int.toNat x3) 0))) != 0) (cond (r2 != 0) (cond ((x6 (Int.toNat (List.getD x7 (Int.toNat x3) 0))) != r2) (some (Sum.inr false)) (some (Sum.inl (x0, x1, x2, (IntKind.wrap .i64 (x3 + 1)), x4, x5, x6, x7)))) (some (Sum.inl (x0, x1, x2, (IntKind.wrap .i64 (x3 + 1)), x4, x5, x6, x7)))) (some (Sum.inl (x0, x1, x2, (IntKind.wrap .i64 (x3 + 1)), x4, x5, x6, x7))))) none)) none) (some (Sum.inr true)))
noncomputable def f70_run2 (x : (Int × Int × Int × Int × Int × Int × (Nat → Int) × (List Int))) : Option Bool := iter (fun x => f70_n2 x.1 x.2.1 x.2.2.1 x.2.2.2.1 x.2.2.2.2.1 x.2.2.2.2.2.1 x.2.2.2.2.2.2.1 x.2.2.2.2.2.2.2) FU x
noncomputable def f70_G2 (r : List A) (x : (Int × Int × Int × Int × Int × Int × (Nat → Int) × (List Int))) : Prop := f70_L r 2 (f70_s2 x.1 x.2.1 x.2.2.1 x.2.2.2.1 x.2.2.2.2.1 x.2.2.2.2.2.1 x.2.2.2.2.2.2.1 x.2.2.2.2.2.2.2) = some r
noncomputable def f70_S2 (r : List A) : Bool → Prop := fun v => r = l70 v
theorem f70_go2 (r : List A) : ∀ x, sem (f70_S2 r) (f70_run2 x) → f70_G2 r x :=
  fun x => iter_sound (step := fun x => f70_n2 x.1 x.2.1 x.2.2.1 x.2.2.2.1 x.2.2.2.2.1 x.2.2.2.2.2.1 x.2.2.2.2.2.2.1 x.2.2.2.2.2.2.2) (fun x h => by
    unfold f70_n2 at h
    exact f70_step2 x.1 x.2.1 x.2.2.1 x.2.2.2.1 x.2.2.2.2.1 x.2.2.2.2.2.1 x.2.2.2.2.2.2.1 x.2.2.2.2.2.2.2 r ((sem_cond h (fun h => (sem_cond h (fun h => (sem_cond h (fun h => sem_got h fun q => q) (fun h => (sem_cond h (fun h => (sem_bind h fun r2 h => (sem_cond h (fun h => (sem_cond h (fun h => (sem_cond h (fun h => sem_got h fun q => some_eq q) (fun h => sem_got h fun q => q))) (fun h => sem_got h fun q => q))) (fun h => sem_got h fun q => q)))) (fun h => sem_none h))))) (fun h => sem_none h))) (fun h => sem_got h fun q => some_eq q)))) FU x
noncomputable def s70 (a0 : Int) (a1 : Int) (a2 : (Nat → Int)) (a3 : Int) (a4 : Int) : Option Bool := (Option.bind (s67 a0 a1 a2) fun r1 => (f70_run2 (a3, a4, ((List.length r1 : Nat) : Int), 0, a0, a1, a2, r1)))
theorem f70_top (a0 : Int) (a1 : Int) (a2 : (Nat → Int)) (a3 : Int) (a4 : Int) (r : List A) : ev f70_X (lpc (cnOf f70_LV) (f70_L r)) f70_c (K0 TT f70_rv) (enter [.rc [.v (.int .i8 a0), .v (.int .i8 a1), .fa 144 .u8 a2], .v (.int .i64 a3), .v (.int .i64 a4)]) = (Option.bind (s67 a0 a1 a2) fun r1 => (f70_L r 2 (f70_s2 a3 a4 ((List.length r1 : Nat) : Int) 0 a0 a1 a2 r1))) := by kernel_rfl
theorem s70_ok (a0 : Int) (a1 : Int) (a2 : (Nat → Int)) (a3 : Int) (a4 : Int) (v : Bool) (h : s70 a0 a1 a2 a3 a4 = some v) : (Option.bind (s67 a0 a1 a2) fun r1 => (f70_L (l70 v) 2 (f70_s2 a3 a4 ((List.length r1 : Nat) : Int) 0 a0 a1 a2 r1))) = some (l70 v) := by
  unfold s70 at h
  have go : ∀ r, sem (fun v => r = l70 v) ((Option.bind (s67 a0 a1 a2) fun r1 => (f70_run2 (a3, a4, ((List.length r1 : Nat) : Int), 0, a0, a1, a2, r1)))) → (Option.bind (s67 a0 a1 a2) fun r1 => (f70_L r 2 (f70_s2 a3 a4 ((List.length r1 : Nat) : Int) 0 a0 a1 a2 r1))) = some r := fun r h => (sem_bind h fun r1 h => f70_go2 r _ h)
  exact go (l70 v) ⟨v, h, rfl⟩
noncomputable def c70 : List A → ACall
  | [.rc [.v (.int .i8 a0), .v (.int .i8 a1), .fa 144 .u8 a2], .v (.int .i64 a3), .v (.int .i64 a4)] => ⟨Bool, s70 a0 a1 a2 a3 a4, fun r => .one (.v (.bool r))⟩
  | _ => ACall.fail
theorem f70_sound : Sound Try.prog 70 c70 := by
  refine sound_good f70_ctx f70_LV 3 Try.func70 (c := f70_c) (by kernel_rfl) (rv := f70_rv) (by kernel_rfl) (by kernel_rfl) (by kernel_rfl) (by kernel_rfl) fun rs => ?_
  unfold c70
  split
  · rename_i a0 a1 a2 a3 a4; intro v h; exact ⟨rfl, l70 v, rfl, (f70_top a0 a1 a2 a3 a4 _).trans (s70_ok a0 a1 a2 a3 a4 v h)⟩
  · intro v h; cases h

/-! ### function 31: loop.example/g01322/impl.RepeatsBy -/
noncomputable def f31_c : Code := match Try.f31.body with | some c => c | none => .skip
noncomputable def f31_X : Ctx := ⟨TT, phiOf [(52, c52), (53, c53), (63, c63), (69, c69), (70, c70)], noPsi⟩
def f31_LV : List (Nat × Keep) := []
def f31_rv : List ResultVar := [.tmp 6, .tmp 7]
noncomputable def f31_L (r : List A) : Nat → AS → Option (List A) := L f31_X (cnOf f31_LV) f31_c (K0 TT f31_rv) r
theorem f31_ctx : CtxOK Try.prog f31_X := ctx_of tab mix ⟨⟨Try.call52, f52_sound⟩, ⟨Try.call53, f53_sound⟩, ⟨Try.call63, f63_sound⟩, ⟨Try.call69, f69_sound⟩, ⟨Try.call70, f70_sound⟩, trivial⟩
noncomputable def s31 (a0 : Int) (a1 : Int) (a2 : (Nat → Int)) (a3 : Int) (a4 : Int) : Option (Bool × Int) := (cond (s63 a3 0 (s69 a0 a1 a2).1) (cond (s63 a4 0 (s69 a0 a1 a2).2) (cond (a3 != 0) (cond ((s52 (s53 a0 a1 a2) true) != 0) (some (false, (s52 (s53 a0 a1 a2) true))) (Option.bind (s70 a0 a1 a2 a3 a4) fun r1 => (some (r1, 0)))) (cond ((s52 (s53 a0 a1 a2) (a4 != 0)) != 0) (some (false, (s52 (s53 a0 a1 a2) (a4 != 0)))) (Option.bind (s70 a0 a1 a2 a3 a4) fun r2 => (some (r2, 0))))) (cond ((s52 (s53 a0 a1 a2) false) != 0) (some (false, (s52 (s53 a0 a1 a2) false))) (Option.bind (s70 a0 a1 a2 a3 a4) fun r3 => (some (r3, 0))))) (cond ((s52 (s53 a0 a1 a2) false) != 0) (some (false, (s52 (s53 a0 a1 a2) false))) (Option.bind (s70 a0 a1 a2 a3 a4) fun r4 => (some (r4, 0)))))
theorem f31_top (a0 : Int) (a1 : Int) (a2 : (Nat → Int)) (a3 : Int) (a4 : Int) (r : List A) : ev f31_X (lpc (cnOf f31_LV) (f31_L r)) f31_c (K0 TT f31_rv) (enter [.rc [.v (.int .i8 a0), .v (.int .i8 a1), .fa 144 .u8 a2], .v (.int .i64 a3), .v (.int .i64 a4)]) = (cond (s63 a3 0 (s69 a0 a1 a2).1) (cond (s63 a4 0 (s69 a0 a1 a2).2) (cond (a3 != 0) (cond ((s52 (s53 a0 a1 a2) true) != 0) (some [.v (.bool false), .v (.int .i64 (s52 (s53 a0 a1 a2) true))]) (Option.bind (s70 a0 a1 a2 a3 a4) fun r1 => (some [.v (.bool r1), .v (.int .i64 0)]))) (cond ((s52 (s53 a0 a1 a2) (a4 != 0)) != 0) (some [.v (.bool false), .v (.int .i64 (s52 (s53 a0 a1 a2) (a4 != 0)))]) (Option.bind (s70 a0 a1 a2 a3 a4) fun r2 => (some [.v (.bool r2), .v (.int .i64 0)])))) (cond ((s52 (s53 a0 a1 a2) false) != 0) (some [.v (.bool false), .v (.int .i64 (s52 (s53 a0 a1 a2) false))]) (Option.bind (s70 a0 a1 a2 a3 a4) fun r3 => (some [.v (.bool r3), .v (.int .i64 0)])))) (cond ((s52 (s53 a0 a1 a2) false) != 0) (some [.v (.bool false), .v (.int .i64 (s52 (s53 a0 a1 a2) false))]) (Option.bind (s70 a0 a1 a2 a3 a4) fun r4 => (some [.v (.bool r4), .v (.int .i64 0)])))) := by kernel_rfl
noncomputable def l31 (r : (Bool × Int)) : List A := [.v (.bool r.1), .v (.int .i64 r.2)]
theorem s31_ok (a0 : Int) (a1 : Int) (a2 : (Nat → Int)) (a3 : Int) (a4 : Int) (v : (Bool × Int)) (h : s31 a0 a1 a2 a3 a4 = some v) : (cond (s63 a3 0 (s69 a0 a1 a2).1) (cond (s63 a4 0 (s69 a0 a1 a2).2) (cond (a3 != 0) (cond ((s52 (s53 a0 a1 a2) true) != 0) (some [.v (.bool false), .v (.int .i64 (s52 (s53 a0 a1 a2) true))]) (Option.bind (s70 a0 a1 a2 a3 a4) fun r1 => (some [.v (.bool r1), .v (.int .i64 0)]))) (cond ((s52 (s53 a0 a1 a2) (a4 != 0)) != 0) (some [.v (.bool false), .v (.int .i64 (s52 (s53 a0 a1 a2) (a4 != 0)))]) (Option.bind (s70 a0 a1 a2 a3 a4) fun r2 => (some [.v (.bool r2), .v (.int .i64 0)])))) (cond ((s52 (s53 a0 a1 a2) false) != 0) (some [.v (.bool false), .v (.int .i64 (s52 (s53 a0 a1 a2) false))]) (Option.bind (s70 a0 a1 a2 a3 a4) fun r3 => (some [.v (.bool r3), .v (.int .i64 0)])))) (cond ((s52 (s53 a0 a1 a2) false) != 0) (some [.v (.bool false), .v (.int .i64 (s52 (s53 a0 a1 a2) false))]) (Option.bind (s70 a0 a1 a2 a3 a4) fun r4 => (some [.v (.bool r4), .v (.int .i64 0)])))) = some (l31 v) := by
  have e : (cond (s63 a3 0 (s69 a0 a1 a2).1) (cond (s63 a4 0 (s69 a0 a1 a2).2) (cond (a3 != 0) (cond ((s52 (s53 a0 a1 a2) true) != 0) (some [.v (.bool false), .v (.int .i64 (s52 (s53 a0 a1 a2) true))]) (Option.bind (s70 a0 a1 a2 a3 a4) fun r1 => (some [.v (.bool r1), .v (.int .i64 0)]))) (cond ((s52 (s53 a0 a1 a2) (a4 != 0)) != 0) (some [.v (.bool false), .v (.int .i64 (s52 (s53 a0 a1 a2) (a4 != 0)))]) (Option.bind (s70 a0 a1 a2 a3 a4) fun r2 => (some [.v (.bool r2), .v (.int .i64 0)])))) (cond ((s52 (s53 a0 a1 a2) false) != 0) (some [.v (.bool false), .v (.int .i64 (s52 (s53 a0 a1 a2) false))]) (Option.bind (s70 a0 a1 a2 a3 a4) fun r3 => (some [.v (.bool r3), .v (.int .i64 0)])))) (cond ((s52 (s53 a0 a1 a2) false) != 0) (some [.v (.bool false), .v (.int .i64 (s52 (s53 a0 a1 a2) false))]) (Option.bind (s70 a0 a1 a2 a3 a4) fun r4 => (some [.v (.bool r4), .v (.int .i64 0)])))) = Option.map l31 (s31 a0 a1 a2 a3 a4) := by
    unfold s31
    exact (cond_app (Option.map l31) (cond_app (Option.map l31) (cond_app (Option.map l31) (cond_app (Option.map l31) rfl (bind_app fun _ => rfl)) (cond_app (Option.map l31) rfl (bind_app fun _ => rfl))) (cond_app (Option.map l31) rfl (bind_app fun _ => rfl))) (cond_app (Option.map l31) rfl (bind_app fun _ => rfl)))
  rw [e, h]; rfl
noncomputable def c31 : List A → ACall
  | [.rc [.v (.int .i8 a0), .v (.int .i8 a1), .fa 144 .u8 a2], .v (.int .i64 a3), .v (.int .i64 a4)] => ⟨(Bool × Int), s31 a0 a1 a2 a3 a4, fun r => .tup [.v (.bool r.1), .v (.int .i64 r.2)]⟩
  | _ => ACall.fail
theorem f31_sound : Sound Try.prog 31 c31 := by
  refine sound_good f31_ctx f31_LV 3 Try.func31 (c := f31_c) (by kernel_rfl) (rv := f31_rv) (by kernel_rfl) (by kernel_rfl) (by kernel_rfl) (by kernel_rfl) fun rs => ?_
  unfold c31
  split
  · rename_i a0 a1 a2 a3 a4; intro v h; exact ⟨rfl, l31 v, rfl, (f31_top a0 a1 a2 a3 a4 _).trans (s31_ok a0 a1 a2 a3 a4 v h)⟩
  · intro v h; cases h

/-! ### function 7: loop.example/g01322/laws.FnExactRepeatsBy -/
noncomputable def f7_c : Code := match Try.f7.body with | some c => c | none => .skip
noncomputable def f7_X : Ctx := ⟨TT, phiOf [(16, c16), (30, c30), (31, c31)], noPsi⟩
def f7_LV : List (Nat × Keep) := []
def f7_rv : List ResultVar := [.tmp 6]
noncomputable def f7_L (r : List A) : Nat → AS → Option (List A) := L f7_X (cnOf f7_LV) f7_c (K0 TT f7_rv) r
theorem f7_ctx : CtxOK Try.prog f7_X := ctx_of tab mix ⟨⟨Try.call16, f16_sound⟩, ⟨Try.call30, f30_sound⟩, ⟨Try.call31, f31_sound⟩, trivial⟩
noncomputable def s7 (a0 : Int) (a1 : Int) (a2 : (Nat → Int)) (a3 : Int) (a4 : Int) : Option Bool := (Option.bind (s30 (s16 a0 a1 a2).1 (s16 a0 a1 a2).2.1 (s16 a0 a1 a2).2.2 a3 a4) fun r1 => (Option.bind (s31 (s16 a0 a1 a2).1 (s16 a0 a1 a2).2.1 (s16 a0 a1 a2).2.2 a3 a4) fun r2 => (cond (!(r2.1 == r1.1)) (some false) (cond (r2.2 != r1.2) (some false) (some true)))))
theorem f7_top (a0 : Int) (a1 : Int) (a2 : (Nat → Int)) (a3 : Int) (a4 : Int) (r : List A) : ev f7_X (lpc (cnOf f7_LV) (f7_L r)) f7_c (K0 TT f7_rv) (enter [.rc [.v (.int .i8 a0), .v (.int .i8 a1), .fa 144 .u8 a2], .v (.int .i64 a3), .v (.int .i64 a4)]) = (Option.bind (s30 (s16 a0 a1 a2).1 (s16 a0 a1 a2).2.1 (s16 a0 a1 a2).2.2 a3 a4) fun r1 => (Option.bind (s31 (s16 a0 a1 a2).1 (s16 a0 a1 a2).2.1 (s16 a0 a1 a2).2.2 a3 a4) fun r2 => (cond (!(r2.1 == r1.1)) (some [.v (.bool false)]) (cond (r2.2 != r1.2) (some [.v (.bool false)]) (some [.v (.bool true)]))))) := by kernel_rfl
noncomputable def l7 (r : Bool) : List A := [.v (.bool r)]
theorem s7_ok (a0 : Int) (a1 : Int) (a2 : (Nat → Int)) (a3 : Int) (a4 : Int) (v : Bool) (h : s7 a0 a1 a2 a3 a4 = some v) : (Option.bind (s30 (s16 a0 a1 a2).1 (s16 a0 a1 a2).2.1 (s16 a0 a1 a2).2.2 a3 a4) fun r1 => (Option.bind (s31 (s16 a0 a1 a2).1 (s16 a0 a1 a2).2.1 (s16 a0 a1 a2).2.2 a3 a4) fun r2 => (cond (!(r2.1 == r1.1)) (some [.v (.bool false)]) (cond (r2.2 != r1.2) (some [.v (.bool false)]) (some [.v (.bool true)]))))) = some (l7 v) := by
  have e : (Option.bind (s30 (s16 a0 a1 a2).1 (s16 a0 a1 a2).2.1 (s16 a0 a1 a2).2.2 a3 a4) fun r1 => (Option.bind (s31 (s16 a0 a1 a2).1 (s16 a0 a1 a2).2.1 (s16 a0 a1 a2).2.2 a3 a4) fun r2 => (cond (!(r2.1 == r1.1)) (some [.v (.bool false)]) (cond (r2.2 != r1.2) (some [.v (.bool false)]) (some [.v (.bool true)]))))) = Option.map l7 (s7 a0 a1 a2 a3 a4) := by
    unfold s7
    exact (bind_app fun _ => (bind_app fun _ => (cond_app (Option.map l7) rfl (cond_app (Option.map l7) rfl rfl))))
  rw [e, h]; rfl
noncomputable def c7 : List A → ACall
  | [.rc [.v (.int .i8 a0), .v (.int .i8 a1), .fa 144 .u8 a2], .v (.int .i64 a3), .v (.int .i64 a4)] => ⟨Bool, s7 a0 a1 a2 a3 a4, fun r => .one (.v (.bool r))⟩
  | _ => ACall.fail
theorem f7_sound : Sound Try.prog 7 c7 := by
  refine sound_good f7_ctx f7_LV 3 Try.func7 (c := f7_c) (by kernel_rfl) (rv := f7_rv) (by kernel_rfl) (by kernel_rfl) (by kernel_rfl) (by kernel_rfl) fun rs => ?_
  unfold c7
  split
  · rename_i a0 a1 a2 a3 a4; intro v h; exact ⟨rfl, l7 v, rfl, (f7_top a0 a1 a2 a3 a4 _).trans (s7_ok a0 a1 a2 a3 a4 v h)⟩
  · intro v h; cases h

/-! ### function 32: loop.example/g01322/spec.PeriodsOf -/
noncomputable def f32_c : Code := match Try.f32.body with | some c => c | none => .skip
noncomputable def f32_X : Ctx := ⟨TT, phiOf [(47, c47), (68, c68)], noPsi⟩
def f32_LV : List (Nat × Keep) := [(4, ([1, 5], [], [])), (7, ([1, 5, 6], [], []))]
def f32_rv : List ResultVar := [.tmp 2, .tmp 3, .tmp 4]
noncomputable def f32_L (r : List A) : Nat → AS → Option (List A) := L f32_X (cnOf f32_LV) f32_c (K0 TT f32_rv) r
theorem f32_ctx : CtxOK Try.prog f32_X := ctx_of tab mix ⟨⟨Try.call47, f47_sound⟩, ⟨Try.call68, f68_sound⟩, trivial⟩
noncomputable def f32_s4 (x0 : Int) (x1 : Int) (x2 : Int) (x3 : (Nat → Int)) : AS := ⟨[(1, .a (.ptr 0 [] (0))), (5, .a (.v (.int .i64 x0)))], [(0, some ⟨true, .box (.rc [.v (.int .i8 x1), .v (.int .i8 x2), .fa 144 .u8 x3])⟩)], 1⟩
noncomputable def f32_s7 (x0 : Int) (x1 : Int) (x2 : Int) (x3 : Int) (x4 : (Nat → Int)) : AS := ⟨[(1, .a (.ptr 0 [] (0))), (5, .a (.v (.int .i64 x0))), (6, .a (.v (.int .i64 x1)))], [(0, some ⟨true, .box (.rc [.v (.int .i8 x2), .v (.int .i8 x3), .fa 144 .u8 x4])⟩)], 1⟩
noncomputable def l32 (r : (Int × Int × Int)) : List A := [.v (.int .i64 r.1), .v (.int .i64 r.2.1), .v (.int .i64 r.2.2)]
theorem f32_step7 (x0 : Int) (x1 : Int) (x2 : Int) (x3 : Int) (x4 : (Nat → Int)) (r : List A) (h : (Option.bind (s68 x2 x3 x4 0 x1) fun r2 => (cond (!r2) (f32_L r 7 (f32_s7 x0 (IntKind.wrap .i64 (x1 + 1)) x2 x3 x4)) (some [.v (.int .i64 x0), .v (.int .i64 x1), .v (.int .i64 0)]))) = some r) : f32_L r 7 (f32_s7 x0 x1 x2 x3 x4) = some r :=
  step_of' h (by kernel_rfl)
noncomputable def f32_n7 (x0 : Int) (x1 : Int) (x2 : Int) (x3 : Int) (x4 : (Nat → Int)) : Option ((Int × Int × Int × Int × (Nat → Int)) ⊕ (Int × Int × Int)) := (Option.bind (s68 x2 x3 x4 0 x1) fun r2 => (cond (!r2) (some (Sum.inl (x0, (IntKind.wrap .i64 (x1 + 1)), x2, x3, x4))) (some (Sum.inr (x0, x1, 0)))))
noncomputable def f32_run7 (x : (Int × Int × Int × Int × (Nat → Int))) : Option (Int × Int × Int) := iter (fun x => f32_n7 x.1 x.2.1 x.2.2.1 x.2.2.2.1 x.2.2.2.2) FU x
noncomputable def f32_G7 (r : List A) (x : (Int × Int × Int × Int × (Nat → Int))) : Prop := f32_L r 7 (f32_s7 x.1 x.2.1 x.2.2.1 x.2.2.2.1 x.2.2.2.2) = some r
theorem f32_step4 (x0 : Int) (x1 : Int) (x2 : Int) (x3 : (Nat → Int)) (r : List A) (h : (Option.bind (s68 x1 x2 x3 x0 0) fun r1 => (cond (!r1) (f32_L r 4 (f32_s4 (IntKind.wrap .i64 (x0 + 1)) x1 x2 x3)) (f32_L r 7 (f32_s7 x0 1 x1 x2 x3)))) = some r) : f32_L r 4 (f32_s4 x0 x1 x2 x3) = some r :=
  step_of' h (by kernel_rfl)
noncomputable def f32_n4 (x0 : Int) (x1 : Int) (x2 : Int) (x3 : (Nat → Int)) : Option ((Int × Int × Int × (Nat → Int)) ⊕ (Int × Int × Int)) := (Option.bind (s68 x1 x2 x3 x0 0) fun r1 => (cond (!r1) (some (Sum.inl ((IntKind.wrap .i64 (x0 + 1)), x1, x2, x3))) (Option.map (fun x => (Sum.inr x)) (f32_run7 (x0, 1, x1, x2, x3)))))
noncomputable def f32_run4 (x : (Int × Int × Int × (Nat → Int))) : Option (Int × Int × Int) := iter (fun x => f32_n4 x.1 x.2.1 x.2.2.1 x.2.2.2) FU x
noncomputable def f32_G4 (r : List A) (x : (Int × Int × Int × (Nat → Int))) : Prop := f32_L r 4 (f32_s4 x.1 x.2.1 x.2.2.1 x.2.2.2) = some r
noncomputable def f32_S7 (r : List A) : (Int × Int × Int) → Prop := fun v => r = l32 v
noncomputable def f32_S4 (r : List A) : (Int × Int × Int) → Prop := fun v => r = l32 v
theorem f32_go7 (r : List A) : ∀ x, sem (f32_S7 r) (f32_run7 x) → f32_G7 r x :=
  fun x => iter_sound (step := fun x => f32_n7 x.1 x.2.1 x.2.2.1 x.2.2.2.1 x.2.2.2.2) (fun x h => by
    unfold f32_n7 at h
    exact f32_step7 x.1 x.2.1 x.2.2.1 x.2.2.2.1 x.2.2.2.2 r ((sem_bind h fun r2 h => (sem_cond h (fun h => sem_got h fun q => q) (fun h => sem_got h fun q => some_eq q))))) FU x
theorem f32_go4 (r : List A) : ∀ x, sem (f32_S4 r) (f32_run4 x) → f32_G4 r x :=
  fun x => iter_sound (step := fun x => f32_n4 x.1 x.2.1 x.2.2.1 x.2.2.2) (fun x h => by
    unfold f32_n4 at h
    exact f32_step4 x.1 x.2.1 x.2.2.1 x.2.2.2 r ((sem_bind h fun r1 h => (sem_cond h (fun h => sem_got h fun q => q) (fun h => f32_go7 r _ (sem_mapk h fun _ q => q)))))) FU x
noncomputable def s32 (a0 : Int) (a1 : Int) (a2 : (Nat → Int)) : Option (Int × Int × Int) := (cond (!(s47 a0 a1 a2)) (some (0, 0, 1)) (f32_run4 (1, a0, a1, a2)))
theorem f32_top (a0 : Int) (a1 : Int) (a2 : (Nat → Int)) (r : List A) : ev f32_X (lpc (cnOf f32_LV) (f32_L r)) f32_c (K0 TT f32_rv) (enter [.rc [.v (.int .i8 a0), .v (.int .i8 a1), .fa 144 .u8 a2]]) = (cond (!(s47 a0 a1 a2)) (some [.v (.int .i64 0), .v (.int .i64 0), .v (.int .i64 1)]) (f32_L r 4 (f32_s4 1 a0 a1 a2))) := by kernel_rfl
theorem s32_ok (a0 : Int) (a1 : Int) (a2 : (Nat → Int)) (v : (Int × Int × Int)) (h : s32 a0 a1 a2 = some v) : (cond (!(s47 a0 a1 a2)) (some [.v (.int .i64 0), .v (.int .i64 0), .v (.int .i64 1)]) (f32_L (l32 v) 4 (f32_s4 1 a0 a1 a2))) = some (l32 v) := by
  unfold s32 at h
  have go : ∀ r, sem (fun v => r = l32 v) ((cond (!(s47 a0 a1 a2)) (some (0, 0, 1)) (f32_run4 (1, a0, a1, a2)))) → (cond (!(s47 a0 a1 a2)) (some [.v (.int .i64 0), .v (.int .i64 0), .v (.int .i64 1)]) (f32_L r 4 (f32_s4 1 a0 a1 a2))) = some r := fun r h => (sem_cond h (fun h => sem_got h fun q => some_eq q) (fun h => f32_go4 r _ h))
  exact go (l32 v) ⟨v, h, rfl⟩
noncomputable def c32 : List A → ACall
  | [.rc [.v (.int .i8 a0), .v (.int .i8 a1), .fa 144 .u8 a2]] => ⟨(Int × Int × Int), s32 a0 a1 a2, fun r => .tup [.v (.int .i64 r.1), .v (.int .i64 r.2.1), .v (.int .i64 r.2.2)]⟩
  | _ => ACall.fail
theorem f32_sound : Sound Try.prog 32 c32 := by
  refine sound_good f32_ctx f32_LV 1 Try.func32 (c := f32_c) (by kernel_rfl) (rv := f32_rv) (by kernel_rfl) (by kernel_rfl) (by kernel_rfl) (by kernel_rfl) fun rs => ?_
  unfold c32
  split
  · rename_i a0 a1 a2; intro v h; exact ⟨rfl, l32 v, rfl, (f32_top a0 a1 a2 _).trans (s32_ok a0 a1 a2 v h)⟩
  · intro v h; cases h

/-! ### function 33: loop.example/g01322/impl.PeriodsOf -/
noncomputable def f33_c : Code := match Try.f33.body with | some c => c | none => .skip
noncomputable def f33_X : Ctx := ⟨TT, phiOf [(53, c53), (70, c70)], noPsi⟩
def f33_LV : List (Nat × Keep) := [(4, ([1, 5, 6], [], [])), (6, ([1, 5, 6], [], []))]
def f33_rv : List ResultVar := [.tmp 2, .tmp 3, .tmp 4]
noncomputable def f33_L (r : List A) : Nat → AS → Option (List A) := L f33_X (cnOf f33_LV) f33_c (K0 TT f33_rv) r
theorem f33_ctx : CtxOK Try.prog f33_X := ctx_of tab mix ⟨⟨Try.call53, f53_sound⟩, ⟨Try.call70, f70_sound⟩, trivial⟩
noncomputable def f33_s4 (x0 : Int) (x1 : Int) (x2 : Int) (x3 : Int) (x4 : (Nat → Int)) : AS := ⟨[(1, .a (.ptr 0 [] (0))), (5, .a (.v (.int .i64 x0))), (6, .a (.v (.int .i64 x1)))], [(0, some ⟨true, .box (.rc [.v (.int .i8 x2), .v (.int .i8 x3), .fa 144 .u8 x4])⟩)], 1⟩
noncomputable def f33_s6 (x0 : Int) (x1 : Int) (x2 : Int) (x3 : Int) (x4 : (Nat → Int)) : AS := ⟨[(1, .a (.ptr 0 [] (0))), (5, .a (.v (.int .i64 x0))), (6, .a (.v (.int .i64 x1)))], [(0, some ⟨true, .box (.rc [.v (.int .i8 x2), .v (.int .i8 x3), .fa 144 .u8 x4])⟩)], 1⟩
noncomputable def l33 (r : (Int × Int × Int)) : List A := [.v (.int .i64 r.1), .v (.int .i64 r.2.1), .v (.int .i64 r.2.2)]
theorem f33_step6 (x0 : Int) (x1 : Int) (x2 : Int) (x3 : Int) (x4 : (Nat → Int)) (r : List A) (h : (Option.bind (s70 x2 x3 x4 0 x1) fun r2 => (cond (!r2) (f33_L r 6 (f33_s6 x0 (IntKind.wrap .i64 (x1 + 1)) x2 x3 x4)) (some [.v (.int .i64 x0), .v (.int .i64 x1), .v (.int .i64 0)]))) = some r) : f33_L r 6 (f33_s6 x0 x1 x2 x3 x4) = some r :=
  step_of' h (by kernel_rfl)
noncomputable def f33_n6 (x0 : Int) (x1 : Int) (x2 : Int) (x3 : Int) (x4 : (Nat → Int)) : Option ((Int × Int × Int × Int × (Nat → Int)) ⊕ (Int × Int × Int)) := (Option.bind (s70 x2 x3 x4 0 x1) fun r2 => (cond (!r2) (some (Sum.inl (x0, (IntKind.wrap .i64 (x1 + 1)), x2, x3, x4))) (some (Sum.inr (x0, x1, 0)))))
noncomputable def f33_run6 (x : (Int × Int × Int × Int × (Nat → Int))) : Option (Int × Int × Int) := iter (fun x => f33_n6 x.1 x.2.1 x.2.2.1 x.2.2.2.1 x.2.2.2.2) FU x
noncomputable def f33_G6 (r : List A) (x : (Int × Int × Int × Int × (Nat → Int))) : Prop := f33_L r 6 (f33_s6 x.1 x.2.1 x.2.2.1 x.2.2.2.1 x.2.2.2.2) = some r
theorem f33_step4 (x0 : Int) (x1 : Int) (x2 : Int) (x3 : Int) (x4 : (Nat → Int)) (r : List A) (h : (Option.bind (s70 x2 x3 x4 x0 0) fun r1 => (cond (!r1) (f33_L r 4 (f33_s4 (IntKind.wrap .i64 (x0 + 1)) x1 x2 x3 x4)) (f33_L r 6 (f33_s6 x0 x1 x2 x3 x4)))) = some r) : f33_L r 4 (f33_s4 x0 x1 x2 x3 x4) = some r :=
  step_of' h (by kernel_rfl)
noncomputable def f33_n4 (x0 : Int) (x1 : Int) (x2 : Int) (x3 : Int) (x4 : (Nat → Int)) : Option ((Int × Int × Int × Int × (Nat → Int)) ⊕ (Int × Int × Int)) := (Option.bind (s70 x2 x3 x4 x0 0) fun r1 => (cond (!r1) (some (Sum.inl ((IntKind.wrap .i64 (x0 + 1)), x1, x2, x3, x4))) (Option.map (fun x => (Sum.inr x)) (f33_run6 (x0, x1, x2, x3, x4)))))
noncomputable def f33_run4 (x : (Int × Int × Int × Int × (Nat → Int))) : Option (Int × Int × Int) := iter (fun x => f33_n4 x.1 x.2.1 x.2.2.1 x.2.2.2.1 x.2.2.2.2) FU x
noncomputable def f33_G4 (r : List A) (x : (Int × Int × Int × Int × (Nat → Int))) : Prop := f33_L r 4 (f33_s4 x.1 x.2.1 x.2.2.1 x.2.2.2.1 x.2.2.2.2) = some r
noncomputable def f33_S6 (r : List A) : (Int × Int × Int) → Prop := fun v => r = l33 v
noncomputable def f33_S4 (r : List A) : (Int × Int × Int) → Prop := fun v => r = l33 v
theorem f33_go6 (r : List A) : ∀ x, sem (f33_S6 r) (f33_run6 x) → f33_G6 r x :=
  fun x => iter_sound (step := fun x => f33_n6 x.1 x.2.1 x.2.2.1 x.2.2.2.1 x.2.2.2.2) (fun x h => by
    unfold f33_n6 at h
    exact f33_step6 x.1 x.2.1 x.2.2.1 x.2.2.2.1 x.2.2.2.2 r ((sem_bind h fun r2 h => (sem_cond h (fun h => sem_got h fun q => q) (fun h => sem_got h fun q => some_eq q))))) FU x
theorem f33_go4 (r : List A) : ∀ x, sem (f33_S4 r) (f33_run4 x) → f33_G4 r x :=
  fun x => iter_sound (step := fun x => f33_n4 x.1 x.2.1 x.2.2.1 x.2.2.2.1 x.2.2.2.2) (fun x h => by
    unfold f33_n4 at h
    exact f33_step4 x.1 x.2.1 x.2.2.1 x.2.2.2.1 x.2.2.2.2 r ((sem_bind h fun r1 h => (sem_cond h (fun h => sem_got h fun q => q) (fun h => f33_go6 r _ (sem_mapk h fun _ q => q)))))) FU x
noncomputable def s33 (a0 : Int) (a1 : Int) (a2 : (Nat → Int)) : Option (Int × Int × Int) := (cond (!(s53 a0 a1 a2)) (some (0, 0, 1)) (f33_run4 (1, 1, a0, a1, a2)))
theorem f33_top (a0 : Int) (a1 : Int) (a2 : (Nat → Int)) (r : List A) : ev f33_X (lpc (cnOf f33_LV) (f33_L r)) f33_c (K0 TT f33_rv) (enter [.rc [.v (.int .i8 a0), .v (.int .i8 a1), .fa 144 .u8 a2]]) = (cond (!(s53 a0 a1 a2)) (some [.v (.int .i64 0), .v (.int .i64 0), .v (.int .i64 1)]) (f33_L r 4 (f33_s4 1 1 a0 a1 a2))) := by kernel_rfl
theorem s33_ok (a0 : Int) (a1 : Int) (a2 : (Nat → Int)) (v : (Int × Int × Int)) (h : s33 a0 a1 a2 = some v) : (cond (!(s53 a0 a1 a2)) (some [.v (.int .i64 0), .v (.int .i64 0), .v (.int .i64 1)]) (f33_L (l33 v) 4 (f33_s4 1 1 a0 a1 a2))) = some (l33 v) := by
  unfold s33 at h
  have go : ∀ r, sem (fun v => r = l33 v) ((cond (!(s53 a0 a1 a2)) (some (0, 0, 1)) (f33_run4 (1, 1, a0, a1, a2)))) → (cond (!(s53 a0 a1 a2)) (some [.v (.int .i64 0), .v (.int .i64 0), .v (.int .i64 1)]) (f33_L r 4 (f33_s4 1 1 a0 a1 a2))) = some r := fun r h => (sem_cond h (fun h => sem_got h fun q => some_eq q) (fun h => f33_go4 r _ h))
  exact go (l33 v) ⟨v, h, rfl⟩
noncomputable def c33 : List A → ACall
  | [.rc [.v (.int .i8 a0), .v (.int .i8 a1), .fa 144 .u8 a2]] => ⟨(Int × Int × Int), s33 a0 a1 a2, fun r => .tup [.v (.int .i64 r.1), .v (.int .i64 r.2.1), .v (.int .i64 r.2.2)]⟩
  | _ => ACall.fail
theorem f33_sound : Sound Try.prog 33 c33 := by
  refine sound_good f33_ctx f33_LV 1 Try.func33 (c := f33_c) (by kernel_rfl) (rv := f33_rv) (by kernel_rfl) (by kernel_rfl) (by kernel_rfl) (by kernel_rfl) fun rs => ?_
  unfold c33
  split
  · rename_i a0 a1 a2; intro v h; exact ⟨rfl, l33 v, rfl, (f33_top a0 a1 a2 _).trans (s33_ok a0 a1 a2 v h)⟩
  · intro v h; cases h

/-! ### function 8: loop.example/g01322/laws.FnExactPeriodsOf -/
noncomputable def f8_c : Code := match Try.f8.body with | some c => c | none => .skip
noncomputable def f8_X : Ctx := ⟨TT, phiOf [(16, c16), (32, c32), (33, c33)], noPsi⟩
def f8_LV : List (Nat × Keep) := []
def f8_rv : List ResultVar := [.tmp 2]
noncomputable def f8_L (r : List A) : Nat → AS → Option (List A) := L f8_X (cnOf f8_LV) f8_c (K0 TT f8_rv) r
theorem f8_ctx : CtxOK Try.prog f8_X := ctx_of tab mix ⟨⟨Try.call16, f16_sound⟩, ⟨Try.call32, f32_sound⟩, ⟨Try.call33, f33_sound⟩, trivial⟩
noncomputable def s8 (a0 : Int) (a1 : Int) (a2 : (Nat → Int)) : Option Bool := (Option.bind (s32 (s16 a0 a1 a2).1 (s16 a0 a1 a2).2.1 (s16 a0 a1 a2).2.2) fun r1 => (Option.bind (s33 (s16 a0 a1 a2).1 (s16 a0 a1 a2).2.1 (s16 a0 a1 a2).2.2) fun r2 => (cond (r2.1 != r1.1) (some false) (cond (r2.2.1 != r1.2.1) (some false) (cond (r2.2.2 != r1.2.2) (some false) (some true))))))
theorem f8_top (a0 : Int) (a1 : Int) (a2 : (Nat → Int)) (r : List A) : ev f8_X (lpc (cnOf f8_LV) (f8_L r)) f8_c (K0 TT f8_rv) (enter [.rc [.v (.int .i8 a0), .v (.int .i8 a1), .fa 144 .u8 a2]]) = (Option.bind (s32 (s16 a0 a1 a2).1 (s16 a0 a1 a2).2.1 (s16 a0 a1 a2).2.2) fun r1 => (Option.bind (s33 (s16 a0 a1 a2).1 (s16 a0 a1 a2).2.1 (s16 a0 a1 a2).2.2) fun r2 => (cond (r2.1 != r1.1) (some [.v (.bool false)]) (cond (r2.2.1 != r1.2.1) (some [.v (.bool false)]) (cond (r2.2.2 != r1.2.2) (some [.v (.bool false)]) (some [.v (.bool true)])))))) := by kernel_rfl
noncomputable def l8 (r : Bool) : List A := [.v (.bool r)]
theorem s8_ok (a0 : Int) (a1 : Int) (a2 : (Nat → Int)) (v : Bool) (h : s8 a0 a1 a2 = some v) : (Option.bind (s32 (s16 a0 a1 a2).1 (s16 a0 a1 a2).2.1 (s16 a0 a1 a2).2.2) fun r1 => (Option.bind (s33 (s16 a0 a1 a2).1 (s16 a0 a1 a2).2.1 (s16 a0 a1 a2).2.2) fun r2 => (cond (r2.1 != r1.1) (some [.v (.bool false)]) (cond (r2.2.1 != r1.2.1) (some [.v (.bool false)]) (cond (r2.2.2 != r1.2.2) (some [.v (.bool false)]) (some [.v (.bool true)])))))) = some (l8 v) := by
  have e : (Option.bind (s32 (s16 a0 a1 a2).1 (s16 a0 a1 a2).2.1 (s16 a0 a1 a2).2.2) fun r1 => (Option.bind (s33 (s16 a0 a1 a2).1 (s16 a0 a1 a2).2.1 (s16 a0 a1 a2).2.2) fun r2 => (cond (r2.1 != r1.1) (some [.v (.bool false)]) (cond (r2.2.1 != r1.2.1) (some [.v (.bool false)]) (cond (r2.2.2 != r1.2.2) (some [.v (.bool false)]) (some [.v (.bool true)])))))) = Option.map l8 (s8 a0 a1 a2) := by
    unfold s8
    exact (bind_app fun _ => (bind_app fun _ => (cond_app (Option.map l8) rfl (cond_app (Option.map l8) rfl (cond_app (Option.map l8) rfl rfl)))))
  rw [e, h]; rfl
noncomputable def c8 : List A → ACall
  | [.rc [.v (.int .i8 a0), .v (.int .i8 a1), .fa 144 .u8 a2]] => ⟨Bool, s8 a0 a1 a2, fun r => .one (.v (.bool r))⟩
  | _ => ACall.fail
theorem f8_sound : Sound Try.prog 8 c8 := by
  refine sound_good f8_ctx f8_LV 1 Try.func8 (c := f8_c) (by kernel_rfl) (rv := f8_rv) (by kernel_rfl) (by kernel_rfl) (by kernel_rfl) (by kernel_rfl) fun rs => ?_
  unfold c8
  split
  · rename_i a0 a1 a2; intro v h; exact ⟨rfl, l8 v, rfl, (f8_top a0 a1 a2 _).trans (s8_ok a0 a1 a2 v h)⟩
  · intro v h; cases h

/-! ### function 71: loop.example/g01322/spec.l06All -/
noncomputable def f71_c : Code := match Try.f71.body with | some c => c | none => .skip
noncomputable def f71_X : Ctx := ⟨TT, phiOf [(47, c47)], noPsi⟩
def f71_LV : List (Nat × Keep) := [(2, ([0, 3], [], [])), (7, ([0, 4], [], []))]
def f71_rv : List ResultVar := [.tmp 2]
noncomputable def f71_L (r : List A) : Nat → AS → Option (List A) := L f71_X (cnOf f71_LV) f71_c (K0 TT f71_rv) r
theorem f71_ctx : CtxOK Try.prog f71_X := ctx_of tab mix ⟨⟨Try.call47, f47_sound⟩, trivial⟩
noncomputable def f71_s2 (x0 : Int) (x1 : (List (Int × Int × (Nat → Int)))) : AS := ⟨[(0, .a (.sl 0)), (3, .a (.v (.int .i64 x0)))], [(0, some ⟨false, .arr (.st [(.i .i8), (.i .i8), (.fa 144 .u8)]) x1⟩)], 1⟩
noncomputable def f71_s7 (x0 : Int) (x1 : (List (Int × Int × (Nat → Int)))) : AS := ⟨[(0, .a (.sl 0)), (4, .a (.v (.int .i64 x0)))], [(0, some ⟨false, .arr (.st [(.i .i8), (.i .i8), (.fa 144 .u8)]) x1⟩)], 1⟩
noncomputable def l71 (r : Int) : List A := [.v (.int .i64 r)]
theorem f71_step7 (x0 : Int) (x1 : (List (Int × Int × (Nat → Int)))) (r : List A) (h : (cond (decide (x0 < ((List.length x1 : Nat) : Int))) (cond (inB x0 (List.length x1)) (cond (inB 0 (List.length x1)) (cond ((List.getD x1 (Int.toNat x0) (0, 0, zF)).1 != (List.getD x1 0 (0, 0, zF)).1) (some [.v (.int .i64 4)]) (cond (inB x0 (List.length x1)) (cond (inB 0 (List.length x1)) (cond ((List.getD x1 (Int.toNat x0) (0, 0, zF)).2.1 != (List.getD x1 0 (0, 0, zF)).2.1) (some [.v (.int .i64 4)]) (f71_L r 7 (f71_s7 (IntKind.wrap .i64 (x0 + 1)) x1))) none) none)) none) none) (some [.v (.int .i64 0)])) = some r) : f71_L r 7 (f71_s7 x0 x1) = some r :=
  step_of' h (by kernel_rfl)
noncomputable def f71_n7 (x0 : Int) (x1 : (List (Int × Int × (Nat → Int)))) : Option ((Int × (List (Int × Int × (Nat → Int)))) ⊕ Int) := (cond (decide (x0 < ((List.length x1 : Nat) : Int))) (cond (inB x0 (List.length x1)) (cond (inB 0 (List.length x1)) (cond ((List.getD x1 (Int.toNat x0) (0, 0, zF)).1 != (List.getD x1 0 (0, 0, zF)).1) (some (Sum.inr 4)) (cond (inB x0 (List.length x1)) (cond (inB 0 (List.length x1)) (cond ((List.getD x1 (Int.toNat x0) (0, 0, zF)).2.1 != (List.getD x1 0 (0, 0, zF)).2.1) (some (Sum.inr 4)) (some (Sum.inl ((IntKind.wrap .i64 (x0 + 1)), x1)))) none) none)) none) none) (some (Sum.inr 0)))
noncomputable def f71_run7 (x : (Int × (List (Int × Int × (Nat → Int))))) : Option Int := iter (fun x => f71_n7 x.1 x.2) FU x
noncomputable def f71_G7 (r : List A) (x : (Int × (List (Int × Int × (Nat → Int))))) : Prop := f71_L r 7 (f71_s7 x.1 x.2) = some r
theorem f71_step2 (x0 : Int) (x1 : (List (Int × Int × (Nat → Int)))) (r : List A) (h : (cond (decide (x0 < ((List.length x1 : Nat) : Int))) (cond (inB x0 (List.length x1)) (cond (!(s47 (List.getD x1 (Int.toNat x0) (0, 0, zF)).1 (List.getD x1 (Int.toNat x0) (0, 0, zF)).2.1 (List.getD x1 (Int.toNat x0) (0, 0, zF)).2.2)) (some [.v (.int .i64 1)]) (f71_L r 2 (f71_s2 (IntKind.wrap .i64 (x0 + 1)) x1))) none) (f71_L r 7 (f71_s7 1 x1))) = some r) : f71_L r 2 (f71_s2 x0 x1) = some r :=
  step_of' h (by kernel_rfl)
noncomputable def f71_n2 (x0 : Int) (x1 : (List (Int × Int × (Nat → Int)))) : Option ((Int × (List (Int × Int × (Nat → Int)))) ⊕ Int) := (cond (decide (x0 < ((List.length x1 : Nat) : Int))) (cond (inB x0 (List.length x1)) (cond (!(s47 (List.getD x1 (Int.toNat x0) (0, 0, zF)).1 (List.getD x1 (Int.toNat x0) (0, 0, zF)).2.1 (List.getD x1 (Int.toNat x0) (0, 0, zF)).2.2)) (some (Sum.inr 1)) (some (Sum.inl ((IntKind.wrap .i64 (x0 + 1)), x1)))) none) (Option.map (fun x => (Sum.inr x)) (f71_run7 (1, x1))))
noncomputable def f71_run2 (x : (Int × (List (Int × Int × (Nat → Int))))) : Option Int := iter (fun x => f71_n2 x.1 x.2) FU x
noncomputable def f71_G2 (r : List A) (x : (Int × (List (Int × Int × (Nat → Int))))) : Prop := f71_L r 2 (f71_s2 x.1 x.2) = some r
noncomputable def f71_S7 (r : List A) : Int → Prop := fun v => r = l71 v
noncomputable def f71_S2 (r : List A) : Int → Prop := fun v => r = l71 v
theorem f71_go7 (r : List A) : ∀ x, sem (f71_S7 r) (f71_run7 x) → f71_G7 r x :=
  fun x => iter_sound (step := fun x => f71_n7 x.1 x.2) (fun x h => by
    unfold f71_n7 at h
    exact f71_step7 x.1 x.2 r ((sem_cond h (fun h => (sem_cond h (fun h => (sem_cond h (fun h => (sem_cond h (fun h => sem_got h fun q => some_eq q) (fun h => (sem_cond h (fun h => (sem_cond h (fun h => (sem_cond h (fun h => sem_got h fun q => some_eq q) (fun h => sem_got h fun q => q))) (fun h => sem_none h))) (fun h => sem_none h))))) (fun h => sem_none h))) (fun h => sem_none h))) (fun h => sem_got h fun q => some_eq q)))) FU x
theorem f71_go2 (r : List A) : ∀ x, sem (f71_S2 r) (f71_run2 x) → f71_G2 r x :=
  fun x => iter_sound (step := fun x => f71_n2 x.1 x.2) (fun x h => by
    unfold f71_n2 at h
    exact f71_step2 x.1 x.2 r ((sem_cond h (fun h => (sem_cond h (fun h => (sem_cond h (fun h => sem_got h fun q => some_eq q) (fun h => sem_got h fun q => q))) (fun h => sem_none h))) (fun h => f71_go7 r _ (sem_mapk h fun _ q => q))))) FU x
noncomputable def s71 (a0 : (List (Int × Int × (Nat → Int)))) : Option Int := (f71_run2 (0, a0))
theorem f71_top (a0 : (List (Int × Int × (Nat → Int)))) (r : List A) : ev f71_X (lpc (cnOf f71_LV) (f71_L r)) f71_c (K0 TT f71_rv) (enter [.lst (.st [(.i .i8), (.i .i8), (.fa 144 .u8)]) a0]) = (f71_L r 2 (f71_s2 0 a0)) := by kernel_rfl
theorem s71_ok (a0 : (List (Int × Int × (Nat → Int)))) (v : Int) (h : s71 a0 = some v) : (f71_L (l71 v) 2 (f71_s2 0 a0)) = some (l71 v) := by
  unfold s71 at h
  have go : ∀ r, sem (fun v => r = l71 v) ((f71_run2 (0, a0))) → (f71_L r 2 (f71_s2 0 a0)) = some r := fun r h => f71_go2 r _ h
  exact go (l71 v) ⟨v, h, rfl⟩
noncomputable def c71 : List A → ACall
  | [.lst (.st [(.i .i8), (.i .i8), (.fa 144 .u8)]) a0] => ⟨Int, s71 a0, fun r => .one (.v (.int .i64 r))⟩
  | _ => ACall.fail
theorem f71_sound : Sound Try.prog 71 c71 := by
  refine sound_good f71_ctx f71_LV 1 Try.func71 (c := f71_c) (by kernel_rfl) (rv := f71_rv) (by kernel_rfl) (by kernel_rfl) (by kernel_rfl) (by kernel_rfl) fun rs => ?_
  unfold c71
  split
  · rename_i a0; intro v h; exact ⟨rfl, l71 v, rfl, (f71_top a0 _).trans (s71_ok a0 v h)⟩
  · intro v h; cases h

/-! ### function 34: loop.example/g01322/spec.StonesNeeded -/
noncomputable def f34_c : Code := match Try.f34.body with | some c => c | none => .skip
noncomputable def f34_X : Ctx := ⟨TT, phiOf [(71, c71)], noPsi⟩
def f34_LV : List (Nat × Keep) := [(6, ([2, 3, 4, 6, 8], [], []))]
def f34_rv : List ResultVar := [.cell 4 51, .tmp 5]
noncomputable def f34_L (r : List A) : Nat → AS → Option (List A) := L f34_X (cnOf f34_LV) f34_c (K0 TT f34_rv) r
theorem f34_ctx : CtxOK Try.prog f34_X := ctx_of tab mix ⟨⟨Try.call71, f71_sound⟩, trivial⟩
noncomputable def f34_s6 (x0 : Int) (x1 : Int) (x2 : Int) (x3 : (Nat → Int)) (x4 : Int) (x5 : Int) (x6 : (Nat → Int)) (x7 : (Nat → Int)) (x8 : (Nat → Int)) : AS := ⟨[(2, .a (.ptr 0 [] (0))), (3, .a (.ptr 1 [] (0))), (4, .a (.ptr 2 [] (0))), (6, .a (.ptr 3 [] (0))), (8, .a (.v (.int .i64 x0)))], [(0, some ⟨true, .box (.rc [.v (.int .i8 x1), .v (.int .i8 x2), .fa 144 .u8 x3])⟩), (1, some ⟨true, .box (.rc [.v (.int .i8 x4), .v (.int .i8 x5), .fa 144 .u8 x6])⟩), (2, some ⟨true, .box (.fa 16 .i64 x7)⟩), (3, some ⟨true, .box (.fa 16 .i64 x8)⟩)], 4⟩
noncomputable def l34 (r : ((Nat → Int) × Int)) : List A := [.fa 16 .i64 r.1, .v (.int .i64 r.2)]
theorem f34_step6 (x0 : Int) (x1 : Int) (x2 : Int) (x3 : (Nat → Int)) (x4 : Int) (x5 : Int) (x6 : (Nat → Int)) (x7 : (Nat → Int)) (x8 : (Nat → Int)) (r : List A) (h : (cond (decide (x0 < 144)) (cond (inB x0 144) (cond ((x3 (Int.toNat x0)) == 0) (cond (inB x0 144) (cond ((x6 (Int.toNat x0)) != 0) (cond (inB x0 144) (cond (inB (x6 (Int.toNat x0)) 16) (cond (inB (x6 (Int.toNat x0)) 16) (f34_L r 6 (f34_s6 (IntKind.wrap .i64 (x0 + 1)) x1 x2 x3 x4 x5 x6 x7 (upd x8 (Int.toNat (x6 (Int.toNat x0))) (IntKind.wrap .i64 ((x8 (Int.toNat (x6 (Int.toNat x0)))) + 1))))) none) none) none) (f34_L r 6 (f34_s6 (IntKind.wrap .i64 (x0 + 1)) x1 x2 x3 x4 x5 x6 x7 x8))) none) (f34_L r 6 (f34_s6 (IntKind.wrap .i64 (x0 + 1)) x1 x2 x3 x4 x5 x6 x7 x8))) none) (some [.fa 16 .i64 x8, .v (.int .i64 0)])) = some r) : f34_L r 6 (f34_s6 x0 x1 x2 x3 x4 x5 x6 x7 x8) = some r :=
  step_of' h (by kernel_rfl)
noncomputable def f34_n6 (x0 : Int) (x1 : Int) (x2 : Int) (x3 : (Nat → Int)) (x4 : Int) (x5 : Int) (x6 : (Nat → Int)) (x7 : (Nat → Int)) (x8 : (Nat → Int)) : Option ((Int × Int × Int × (Nat → Int) × Int × Int × (Nat → Int) × (Nat → Int) × (Nat → Int)) ⊕ ((Nat → Int) × Int)) := (cond (decide (x0 < 144)) (cond (inB x0 144) (cond ((x3 (Int.toNat x0)) == 0) (cond (inB x0 144) (cond ((x6 (Int.toNat x0)) != 0) (cond (inB x0 144) (cond (inB (x6 (Int.toNat x0)) 16) (cond (inB (x6 (Int.toNat x0)) 16) (some (Sum.inl ((IntKind.wrap .i64 (x0 + 1)), x1, x2, x3, x4, x5, x6, x7, (upd x8 (Int.toNat (x6 (Int.toNat x0))) (IntKind.wrap .i64 ((x8 (Int.toNat (x6 (Int.toNat x0)))) + 1)))))) none) none) none) (some (Sum.inl ((IntKind.wrap .i64 (x0 + 1)), x1, x2, x3, x4, x5, x6, x7, x8)))) none) (some (Sum.inl ((IntKind.wrap .i64 (x0 + 1)), x1, x2, x3, x4, x5, x6, x7, x8)))) none) (some (Sum.inr (x8, 0))))
noncomputable def f34_run6 (x : (Int × Int × Int × (Nat → Int) × Int × Int × (Nat → Int) × (Nat → Int) × (Nat → Int))) : Option ((Nat → Int) × Int) := iter (fun x => f34_n6 x.1 x.2.1 x.2.2.1 x.2.2.2.1 x.2.2.2.2.1 x.2.2.2.2.2.1 x.2.2.2.2.2.2.1 x.2.2.2.2.2.2.2.1 x.2.2.2.2.2.2.2.2) FU x
noncomputable def f34_G6 (r : List A) (x : (Int × Int × Int × (Nat → Int) × Int × Int × (Nat → Int) × (Nat → Int) × (Nat → Int))) : Prop := f34_L r 6 (f34_s6 x.1 x.2.1 x.2.2.1 x.2.2.2.1 x.2.2.2.2.1 x.2.2.2.2.2.1 x.2.2.2.2.2.2.1 x.2.2.2.2.2.2.2.1 x.2.2.2.2.2.2.2.2) = some r
noncomputable def f34_S6 (r : List A) : ((Nat → Int) × Int) → Prop := fun v => r = l34 v
theorem f34_go6 (r : List A) : ∀ x, sem (f34_S6 r) (f34_run6 x) → f34_G6 r x :=
  fun x => iter_sound (step := fun x => f34_n6 x.1 x.2.1 x.2.2.1 x.2.2.2.1 x.2.2.2.2.1 x.2.2.2.2.2.1 x.2.2.2.2.2.2.1 x.2.2.2.2.2.2.2.1 x.2.2.2.2.2.2.2.2) (fun x h => by
    unfold f34_n6 at h
    exact f34_step6 x.1 x.2.1 x.2.2.1 x.2.2.2.1 x.2.2.2.2.1 x.2.2.2.2.2.1 x.2.2.2.2.2.2.1 x.2.2.2.2.2.2.2.1 x.2.2.2.2.2.2.2.2 r ((sem_cond h (fun h => (sem_cond h (fun h => (sem_cond h (fun h => (sem_cond h (fun h => (sem_cond h (fun h => (sem_cond h (fun h => (sem_cond h (fun h => (sem_cond h (fun h => sem_got h fun q => q) (fun h => sem_none h))) (fun h => sem_none h))) (fun h => sem_none h))) (fun h => sem_got h fun q => q))) (fun h => sem_none h))) (fun h => sem_got h fun q => q))) (fun h => sem_none h))) (fun h => sem_got h fun q => some_eq q)))) FU x
noncomputable def s34 (a0 : Int) (a1 : Int) (a2 : (Nat → Int)) (a3 : Int) (a4 : Int) (a5 : (Nat → Int)) : Option ((Nat → Int) × Int) := (Option.bind (s71 [(a0, a1, a2), (a3, a4, a5)]) fun r1 => (cond (r1 != 0) (some (zF, r1)) (f34_run6 (0, a0, a1, a2, a3, a4, a5, zF, zF))))
theorem f34_top (a0 : Int) (a1 : Int) (a2 : (Nat → Int)) (a3 : Int) (a4 : Int) (a5 : (Nat → Int)) (r : List A) : ev f34_X (lpc (cnOf f34_LV) (f34_L r)) f34_c (K0 TT f34_rv) (enter [.rc [.v (.int .i8 a0), .v (.int .i8 a1), .fa 144 .u8 a2], .rc [.v (.int .i8 a3), .v (.int .i8 a4), .fa 144 .u8 a5]]) = (Option.bind (s71 [(a0, a1, a2), (a3, a4, a5)]) fun r1 => (cond (r1 != 0) (some [.fa 16 .i64 zF, .v (.int .i64 r1)]) (f34_L r 6 (f34_s6 0 a0 a1 a2 a3 a4 a5 zF zF)))) := by kernel_rfl
theorem s34_ok (a0 : Int) (a1 : Int) (a2 : (Nat → Int)) (a3 : Int) (a4 : Int) (a5 : (Nat → Int)) (v : ((Nat → Int) × Int)) (h : s34 a0 a1 a2 a3 a4 a5 = some v) : (Option.bind (s71 [(a0, a1, a2), (a3, a4, a5)]) fun r1 => (cond (r1 != 0) (some [.fa 16 .i64 zF, .v (.int .i64 r1)]) (f34_L (l34 v) 6 (f34_s6 0 a0 a1 a2 a3 a4 a5 zF zF)))) = some (l34 v) := by
  unfold s34 at h
  have go : ∀ r, sem (fun v => r = l34 v) ((Option.bind (s71 [(a0, a1, a2), (a3, a4, a5)]) fun r1 => (cond (r1 != 0) (some (zF, r1)) (f34_run6 (0, a0, a1, a2, a3, a4, a5, zF, zF))))) → (Option.bind (s71 [(a0, a1, a2), (a3, a4, a5)]) fun r1 => (cond (r1 != 0) (some [.fa 16 .i64 zF, .v (.int .i64 r1)]) (f34_L r 6 (f34_s6 0 a0 a1 a2 a3 a4 a5 zF zF)))) = some r := fun r h => (sem_bind h fun r1 h => (sem_cond h (fun h => sem_got h fun q => some_eq q) (fun h => f34_go6 r _ h)))
  exact go (l34 v) ⟨v, h, rfl⟩
noncomputable def c34 : List A → ACall
  | [.rc [.v (.int .i8 a0), .v (.int .i8 a1), .fa 144 .u8 a2], .rc [.v (.int .i8 a3), .v (.int .i8 a4), .fa 144 .u8 a5]] => ⟨((Nat → Int) × Int), s34 a0 a1 a2 a3 a4 a5, fun r => .tup [.fa 16 .i64 r.1, .v (.int .i64 r.2)]⟩
  | _ => ACall.fail
theorem f34_sound : Sound Try.prog 34 c34 := by
  refine sound_good f34_ctx f34_LV 2 Try.func34 (c := f34_c) (by kernel_rfl) (rv := f34_rv) (by kernel_rfl) (by kernel_rfl) (by kernel_rfl) (by kernel_rfl) fun rs => ?_
  unfold c34
  split
  · rename_i a0 a1 a2 a3 a4 a5; intro v h; exact ⟨rfl, l34 v, rfl, (f34_top a0 a1 a2 a3 a4 a5 _).trans (s34_ok a0 a1 a2 a3 a4 a5 v h)⟩
  · intro v h; cases h

/-! ### function 92: loop.example/g01322/impl.codeAlike$1 -/
noncomputable def f92_c : Code := match Try.f92.body with | some c => c | none => .skip
noncomputable def f92_X : Ctx := ⟨TT, phiOf [(53, c53)], noPsi⟩
def f92_LV : List (Nat × Keep) := []
def f92_rv : List ResultVar := [.tmp 2]
noncomputable def f92_L (r : List A) : Nat → AS → Option (List A) := L f92_X (cnOf f92_LV) f92_c (K0 TT f92_rv) r
theorem f92_ctx : CtxOK Try.prog f92_X := ctx_of tab mix ⟨⟨Try.call53, f53_sound⟩, trivial⟩
noncomputable def s92 (a0 : Int) (a1 : Int) (a2 : (Nat → Int)) : Bool := (!(s53 a0 a1 a2))
theorem f92_top (a0 : Int) (a1 : Int) (a2 : (Nat → Int)) (r : List A) : ev f92_X (lpc (cnOf f92_LV) (f92_L r)) f92_c (K0 TT f92_rv) (enter [.rc [.v (.int .i8 a0), .v (.int .i8 a1), .fa 144 .u8 a2]]) = (some [.v (.bool (!(s53 a0 a1 a2)))]) := by kernel_rfl
noncomputable def l92 (r : Bool) : List A := [.v (.bool r)]
theorem s92_ok (a0 : Int) (a1 : Int) (a2 : (Nat → Int)) : (some [.v (.bool (!(s53 a0 a1 a2)))]) = some (l92 (s92 a0 a1 a2)) := by
  unfold s92
  exact rfl
noncomputable def c92 : List A → ACall
  | [.rc [.v (.int .i8 a0), .v (.int .i8 a1), .fa 144 .u8 a2]] => ⟨Bool, some (s92 a0 a1 a2), fun r => .one (.v (.bool r))⟩
  | _ => ACall.fail
theorem f92_sound : Sound Try.prog 92 c92 := by
  refine sound_good f92_ctx f92_LV 1 Try.func92 (c := f92_c) (by kernel_rfl) (rv := f92_rv) (by kernel_rfl) (by kernel_rfl) (by kernel_rfl) (by kernel_rfl) fun rs => ?_
  unfold c92
  split
  · rename_i a0 a1 a2; intro v h; cases h; exact ⟨rfl, l92 (s92 a0 a1 a2), rfl, (f92_top a0 a1 a2 _).trans (s92_ok a0 a1 a2)⟩
  · intro v h; cases h

/-! ### function 97: slices.IndexFunc[[]loop.example/g01322/impl.Picture,loop.example/g01322/impl.Picture] -/
noncomputable def f97a_c : Code := match Try.f97.body with | some c => c | none => .skip
noncomputable def f97a_X : Ctx := ⟨TT, phiOf [(92, c92)], noPsi⟩
def f97a_LV : List (Nat × Keep) := [(2, ([0, 1, 7, 8], [], []))]
def f97a_rv : List ResultVar := [.tmp 4]
noncomputable def f97a_L (r : List A) : Nat → AS → Option (List A) := L f97a_X (cnOf f97a_LV) f97a_c (K0 TT f97a_rv) r
theorem f97a_ctx : CtxOK Try.prog f97a_X := ctx_of tab mix ⟨⟨Try.call92, f92_sound⟩, trivial⟩
noncomputable def f97a_s2 (x0 : Int) (x1 : Int) (x2 : (List (Int × Int × (Nat → Int)))) : AS := ⟨[(0, .a (.sl 0)), (1, .a (.clo 92 [])), (7, .a (.v (.int .i64 x0))), (8, .a (.v (.int .i64 x1)))], [(0, some ⟨false, .arr (.st [(.i .i8), (.i .i8), (.fa 144 .u8)]) x2⟩)], 1⟩
noncomputable def l97a (r : Int) : List A := [.v (.int .i64 r)]
theorem f97a_step2 (x0 : Int) (x1 : Int) (x2 : (List (Int × Int × (Nat → Int)))) (r : List A) (h : (cond (decide (x1 < x0)) (cond (inB x1 (List.length x2)) (cond (s92 (List.getD x2 (Int.toNat x1) (0, 0, zF)).1 (List.getD x2 (Int.toNat x1) (0, 0, zF)).2.1 (List.getD x2 (Int.toNat x1) (0, 0, zF)).2.2) (some [.v (.int .i64 x1)]) (f97a_L r 2 (f97a_s2 x0 (IntKind.wrap .i64 (x1 + 1)) x2))) none) (some [.v (.int .i64 (-1))])) = some r) : f97a_L r 2 (f97a_s2 x0 x1 x2) = some r :=
  step_of' h (by kernel_rfl)
noncomputable def f97a_n2 (x0 : Int) (x1 : Int) (x2 : (List (Int × Int × (Nat → Int)))) : Option ((Int × Int × (List (Int × Int × (Nat → Int)))) ⊕ Int) := (cond (decide (x1 < x0)) (cond (inB x1 (List.length x2)) (cond (s92 (List.getD x2 (Int.toNat x1) (0, 0, zF)).1 (List.getD x2 (Int.toNat x1) (0, 0, zF)).2.1 (List.getD x2 (Int.toNat x1) (0, 0, zF)).2.2) (some (Sum.inr x1)) (some (Sum.inl (x0, (IntKind.wrap .i64 (x1 + 1)), x2)))) none) (some (Sum.inr (-1))))
noncomputable def f97a_run2 (x : (Int × Int × (List (Int × Int × (Nat → Int))))) : Option Int := iter (fun x => f97a_n2 x.1 x.2.1 x.2.2) FU x
noncomputable def f97a_G2 (r : List A) (x : (Int × Int × (List (Int × Int × (Nat → Int))))) : Prop := f97a_L r 2 (f97a_s2 x.1 x.2.1 x.2.2) = some r
noncomputable def f97a_S2 (r : List A) : Int → Prop := fun v => r = l97a v
theorem f97a_go2 (r : List A) : ∀ x, sem (f97a_S2 r) (f97a_run2 x) → f97a_G2 r x :=
  fun x => iter_sound (step := fun x => f97a_n2 x.1 x.2.1 x.2.2) (fun x h => by
    unfold f97a_n2 at h
    exact f97a_step2 x.1 x.2.1 x.2.2 r ((sem_cond h (fun h => (sem_cond h (fun h => (sem_cond h (fun h => sem_got h fun q => some_eq q) (fun h => sem_got h fun q => q))) (fun h => sem_none h))) (fun h => sem_got h fun q => some_eq q)))) FU x
noncomputable def s97a (a0 : (List (Int × Int × (Nat → Int)))) : Option Int := (f97a_run2 (((List.length a0 : Nat) : Int), 0, a0))
theorem f97a_top (a0 : (List (Int × Int × (Nat → Int)))) (r : List A) : ev f97a_X (lpc (cnOf f97a_LV) (f97a_L r)) f97a_c (K0 TT f97a_rv) (enter [.lst (.st [(.i .i8), (.i .i8), (.fa 144 .u8)]) a0, .clo 92 []]) = (f97a_L r 2 (f97a_s2 ((List.length a0 : Nat) : Int) 0 a0)) := by kernel_rfl
theorem s97a_ok (a0 : (List (Int × Int × (Nat → Int)))) (v : Int) (h : s97a a0 = some v) : (f97a_L (l97a v) 2 (f97a_s2 ((List.length a0 : Nat) : Int) 0 a0)) = some (l97a v) := by
  unfold s97a at h
  have go : ∀ r, sem (fun v => r = l97a v) ((f97a_run2 (((List.length a0 : Nat) : Int), 0, a0))) → (f97a_L r 2 (f97a_s2 ((List.length a0 : Nat) : Int) 0 a0)) = some r := fun r h => f97a_go2 r _ h
  exact go (l97a v) ⟨v, h, rfl⟩
noncomputable def c97a : List A → ACall
  | [.lst (.st [(.i .i8), (.i .i8), (.fa 144 .u8)]) a0, .clo 92 []] => ⟨Int, s97a a0, fun r => .one (.v (.int .i64 r))⟩
  | _ => ACall.fail
theorem f97a_sound : Sound Try.prog 97 c97a := by
  refine sound_good f97a_ctx f97a_LV 2 Try.func97 (c := f97a_c) (by kernel_rfl) (rv := f97a_rv) (by kernel_rfl) (by kernel_rfl) (by kernel_rfl) (by kernel_rfl) fun rs => ?_
  unfold c97a
  split
  · rename_i a0; intro v h; exact ⟨rfl, l97a v, rfl, (f97a_top a0 _).trans (s97a_ok a0 v h)⟩
  · intro v h; cases h
def m97a : List A → Bool
  | [_, .clo 92 _] => true
  | _ => false

/-! ### function 91: slices.ContainsFunc[[]loop.example/g01322/impl.Picture,loop.example/g01322/impl.Picture] -/
noncomputable def f91a_c : Code := match Try.f91.body with | some c => c | none => .skip
noncomputable def f91a_X : Ctx := ⟨TT, phiOf [(97, c97a)], noPsi⟩
def f91a_LV : List (Nat × Keep) := []
def f91a_rv : List ResultVar := [.tmp 4]
noncomputable def f91a_L (r : List A) : Nat → AS → Option (List A) := L f91a_X (cnOf f91a_LV) f91a_c (K0 TT f91a_rv) r
theorem f91a_ctx : CtxOK Try.prog f91a_X := ctx_of tab mix ⟨⟨Try.call97, f97a_sound⟩, trivial⟩
noncomputable def s91a (a0 : (List (Int × Int × (Nat → Int)))) : Option Bool := (Option.bind (s97a a0) fun r1 => (some (decide (r1 ≥ 0))))
theorem f91a_top (a0 : (List (Int × Int × (Nat → Int)))) (r : List A) : ev f91a_X (lpc (cnOf f91a_LV) (f91a_L r)) f91a_c (K0 TT f91a_rv) (enter [.lst (.st [(.i .i8), (.i .i8), (.fa 144 .u8)]) a0, .clo 92 []]) = (Option.bind (s97a a0) fun r1 => (some [.v (.bool (decide (r1 ≥ 0)))])) := by kernel_rfl
noncomputable def l91a (r : Bool) : List A := [.v (.bool r)]
theorem s91a_ok (a0 : (List (Int × Int × (Nat → Int)))) (v : Bool) (h : s91a a0 = some v) : (Option.bind (s97a a0) fun r1 => (some [.v (.bool (decide (r1 ≥ 0)))])) = some (l91a v) := by
  have e : (Option.bind (s97a a0) fun r1 => (some [.v (.bool (decide (r1 ≥ 0)))])) = Option.map l91a (s91a a0) := by
    unfold s91a
    exact (bind_app fun _ => rfl)
  rw [e, h]; rfl
noncomputable def c91a : List A → ACall
  | [.lst (.st [(.i .i8), (.i .i8), (.fa 144 .u8)]) a0, .clo 92 []] => ⟨Bool, s91a a0, fun r => .one (.v (.bool r))⟩
  | _ => ACall.fail
theorem f91a_sound : Sound Try.prog 91 c91a := by
  refine sound_good f91a_ctx f91a_LV 2 Try.func91 (c := f91a_c) (by kernel_rfl) (rv := f91a_rv) (by kernel_rfl) (by kernel_rfl) (by kernel_rfl) (by kernel_rfl) fun rs => ?_
  unfold c91a
  split
  · rename_i a0; intro v h; exact ⟨rfl, l91a v, rfl, (f91a_top a0 _).trans (s91a_ok a0 v h)⟩
  · intro v h; cases h
def m91a : List A → Bool
  | [_, .clo 92 _] => true
  | _ => false

/-! ### function 93: loop.example/g01322/impl.codeAlike$2 -/
noncomputable def f93_c : Code := match Try.f93.body with | some c => c | none => .skip
noncomputable def f93_X : Ctx := ⟨TT, phiOf [], noPsi⟩
def f93_LV : List (Nat × Keep) := []
def f93_rv : List ResultVar := [.tmp 3]
noncomputable def f93_L (r : List A) : Nat → AS → Option (List A) := L f93_X (cnOf f93_LV) f93_c (K0 TT f93_rv) r
theorem f93_ctx : CtxOK Try.prog f93_X := ctx_of tab mix trivial
noncomputable def s93 (a0 : Int) (a1 : Int) (a2 : (Nat → Int)) (a3 : (List (Int × Int × (Nat → Int)))) : Option Bool := (cond (inB 0 (List.length a3)) (cond (a0 != (List.getD a3 0 (0, 0, zF)).1) (some true) (cond (inB 0 (List.length a3)) (some (a1 != (List.getD a3 0 (0, 0, zF)).2.1)) none)) none)
theorem f93_top (a0 : Int) (a1 : Int) (a2 : (Nat → Int)) (a3 : (List (Int × Int × (Nat → Int)))) (r : List A) : ev f93_X (lpc (cnOf f93_LV) (f93_L r)) f93_c (K0 TT f93_rv) (enter [.rc [.v (.int .i8 a0), .v (.int .i8 a1), .fa 144 .u8 a2], .ref (.lst (.st [(.i .i8), (.i .i8), (.fa 144 .u8)]) a3)]) = (cond (inB 0 (List.length a3)) (cond (a0 != (List.getD a3 0 (0, 0, zF)).1) (some [.v (.bool true)]) (cond (inB 0 (List.length a3)) (some [.v (.bool (a1 != (List.getD a3 0 (0, 0, zF)).2.1))]) none)) none) := by kernel_rfl
noncomputable def l93 (r : Bool) : List A := [.v (.bool r)]
theorem s93_ok (a0 : Int) (a1 : Int) (a2 : (Nat → Int)) (a3 : (List (Int × Int × (Nat → Int)))) (v : Bool) (h : s93 a0 a1 a2 a3 = some v) : (cond (inB 0 (List.length a3)) (cond (a0 != (List.getD a3 0 (0, 0, zF)).1) (some [.v (.bool true)]) (cond (inB 0 (List.length a3)) (some [.v (.bool (a1 != (List.getD a3 0 (0, 0, zF)).2.1))]) none)) none) = some (l93 v) := by
  have e : (cond (inB 0 (List.length a3)) (cond (a0 != (List.getD a3 0 (0, 0, zF)).1) (some [.v (.bool true)]) (cond (inB 0 (List.length a3)) (some [.v (.bool (a1 != (List.getD a3 0 (0, 0, zF)).2.1))]) none)) none) = Option.map l93 (s93 a0 a1 a2 a3) := by
    unfold s93
    exact (cond_app (Option.map l93) (cond_app (Option.map l93) rfl (cond_app (Option.map l93) rfl rfl)) rfl)
  rw [e, h]; rfl
noncomputable def c93 : List A → ACall
  | [.rc [.v (.int .i8 a0), .v (.int .i8 a1), .fa 144 .u8 a2], .ref (.lst (.st [(.i .i8), (.i .i8), (.fa 144 .u8)]) a3)] => ⟨Bool, s93 a0 a1 a2 a3, fun r => .one (.v (.bool r))⟩
  | _ => ACall.fail
theorem f93_sound : Sound Try.prog 93 c93 := by
  refine sound_good f93_ctx f93_LV 2 Try.func93 (c := f93_c) (by kernel_rfl) (rv := f93_rv) (by kernel_rfl) (by kernel_rfl) (by kernel_rfl) (by kernel_rfl) fun rs => ?_
  unfold c93
  split
  · rename_i a0 a1 a2 a3; intro v h; exact ⟨rfl, l93 v, rfl, (f93_top a0 a1 a2 a3 _).trans (s93_ok a0 a1 a2 a3 v h)⟩
  · intro v h; cases h

/-! ### function 97: slices.IndexFunc[[]loop.example/g01322/impl.Picture,loop.example/g01322/impl.Picture] -/
noncomputable def f97b_c : Code := match Try.f97.body with | some c => c | none => .skip
noncomputable def f97b_X : Ctx := ⟨TT, phiOf [(93, c93)], noPsi⟩
def f97b_LV : List (Nat × Keep) := [(2, ([0, 1, 7, 8], [], []))]
def f97b_rv : List ResultVar := [.tmp 4]
noncomputable def f97b_L (r : List A) : Nat → AS → Option (List A) := L f97b_X (cnOf f97b_LV) f97b_c (K0 TT f97b_rv) r
theorem f97b_ctx : CtxOK Try.prog f97b_X := ctx_of tab mix ⟨⟨Try.call93, f93_sound⟩, trivial⟩
noncomputable def f97b_s2 (x0 : Int) (x1 : Int) (x2 : (List (Int × Int × (Nat → Int)))) (x3 : (List (Int × Int × (Nat → Int)))) : AS := ⟨[(0, .a (.sl 0)), (1, .a (.clo 93 [.ptr 1 [] (0)])), (7, .a (.v (.int .i64 x0))), (8, .a (.v (.int .i64 x1)))], [(0, some ⟨false, .arr (.st [(.i .i8), (.i .i8), (.fa 144 .u8)]) x2⟩), (1, some ⟨false, .box (.sl 2)⟩), (2, some ⟨false, .arr (.st [(.i .i8), (.i .i8), (.fa 144 .u8)]) x3⟩)], 3⟩
noncomputable def l97b (r : Int) : List A := [.v (.int .i64 r)]
theorem f97b_step2 (x0 : Int) (x1 : Int) (x2 : (List (Int × Int × (Nat → Int)))) (x3 : (List (Int × Int × (Nat → Int)))) (r : List A) (h : (cond (decide (x1 < x0)) (cond (inB x1 (List.length x2)) (Option.bind (s93 (List.getD x2 (Int.toNat x1) (0, 0, zF)).1 (List.getD x2 (Int.toNat x1) (0, 0, zF)).2.1 (List.getD x2 (Int.toNat x1) (0, 0, zF)).2.2 x3) fun r1 => (cond r1 (some [.v (.int .i64 x1)]) (f97b_L r 2 (f97b_s2 x0 (IntKind.wrap .i64 (x1 + 1)) x2 x3)))) none) (some [.v (.int .i64 (-1))])) = some r) : f97b_L r 2 (f97b_s2 x0 x1 x2 x3) = some r :=
  step_of' h (by kernel_rfl)
noncomputable def f97b_n2 (x0 : Int) (x1 : Int) (x2 : (List (Int × Int × (Nat → Int)))) (x3 : (List (Int × Int × (Nat → Int)))) : Option ((Int × Int × (List (Int × Int × (Nat → Int))) × (List (Int × Int × (Nat → Int)))) ⊕ Int) := (cond (decide (x1 < x0)) (cond (inB x1 (List.length x2)) (Option.bind (s93 (List.getD x2 (Int.toNat x1) (0, 0, zF)).1 (List.getD x2 (Int.toNat x1) (0, 0, zF)).2.1 (List.getD x2 (Int.toNat x1) (0, 0, zF)).2.2 x3) fun r1 => (cond r1 (some (Sum.inr x1)) (some (Sum.inl (x0, (IntKind.wrap .i64 (x1 + 1)), x2, x3))))) none) (some (Sum.inr (-1))))
noncomputable def f97b_run2 (x : (Int × Int × (List (Int × Int × (Nat → Int))) × (List (Int × Int × (Nat → Int))))) : Option Int := iter (fun x => f97b_n2 x.1 x.2.1 x.2.2.1 x.2.2.2) FU x
noncomputable def f97b_G2 (r : List A) (x : (Int × Int × (List (Int × Int × (Nat → Int))) × (List (Int × Int × (Nat → Int))))) : Prop := f97b_L r 2 (f97b_s2 x.1 x.2.1 x.2.2.1 x.2.2.2) = some r
noncomputable def f97b_S2 (r : List A) : Int → Prop := fun v => r = l97b v
theorem f97b_go2 (r : List A) : ∀ x, sem (f97b_S2 r) (f97b_run2 x) → f97b_G2 r x :=
  fun x => iter_sound (step := fun x => f97b_n2 x.1 x.2.1 x.2.2.1 x.2.2.2) (fun x h => by
    unfold f97b_n2 at h
    exact f97b_step2 x.1 x.2.1 x.2.2.1 x.2.2.2 r ((sem_cond h (fun h => (sem_cond h (fun h => (sem_bind h fun r1 h => (sem_cond h (fun h => sem_got h fun q => some_eq q) (fun h => sem_got h fun q => q)))) (fun h => sem_none h))) (fun h => sem_got h fun q => some_eq q)))) FU x
noncomputable def s97b (a0 : (List (Int × Int × (Nat → Int)))) (a1 : (List (Int × Int × (Nat → Int)))) : Option Int := (f97b_run2 (((List.length a0 : Nat) : Int), 0, a0, a1))
theorem f97b_top (a0 : (List (Int × Int × (Nat → Int)))) (a1 : (List (Int × Int × (Nat → Int)))) (r : List A) : ev f97b_X (lpc (cnOf f97b_LV) (f97b_L r)) f97b_c (K0 TT f97b_rv) (enter [.lst (.st [(.i .i8), (.i .i8), (.fa 144 .u8)]) a0, .clo 93 [.ref (.lst (.st [(.i .i8), (.i .i8), (.fa 144 .u8)]) a1)]]) = (f97b_L r 2 (f97b_s2 ((List.length a0 : Nat) : Int) 0 a0 a1)) := by kernel_rfl
theorem s97b_ok (a0 : (List (Int × Int × (Nat → Int)))) (a1 : (List (Int × Int × (Nat → Int)))) (v : Int) (h : s97b a0 a1 = some v) : (f97b_L (l97b v) 2 (f97b_s2 ((List.length a0 : Nat) : Int) 0 a0 a1)) = some (l97b v) := by
  unfold s97b at h
  have go : ∀ r, sem (fun v => r = l97b v) ((f97b_run2 (((List.length a0 : Nat) : Int), 0, a0, a1))) → (f97b_L r 2 (f97b_s2 ((List.length a0 : Nat) : Int) 0 a0 a1)) = some r := fun r h => f97b_go2 r _ h
  exact go (l97b v) ⟨v, h, rfl⟩
noncomputable def c97b : List A → ACall
  | [.lst (.st [(.i .i8), (.i .i8), (.fa 144 .u8)]) a0, .clo 93 [.ref (.lst (.st [(.i .i8), (.i .i8), (.fa 144 .u8)]) a1)]] => ⟨Int, s97b a0 a1, fun r => .one (.v (.int .i64 r))⟩
  | _ => ACall.fail
theorem f97b_sound : Sound Try.prog 97 c97b := by
  refine sound_good f97b_ctx f97b_LV 2 Try.func97 (c := f97b_c) (by kernel_rfl) (rv := f97b_rv) (by kernel_rfl) (by kernel_rfl) (by kernel_rfl) (by kernel_rfl) fun rs => ?_
  unfold c97b
  split
  · rename_i a0 a1; intro v h; exact ⟨rfl, l97b v, rfl, (f97b_top a0 a1 _).trans (s97b_ok a0 a1 v h)⟩
  · intro v h; cases h
def m97b : List A → Bool
  | [_, .clo 93 _] => true
  | _ => false

/-! ### function 91: slices.ContainsFunc[[]loop.example/g01322/impl.Picture,loop.example/g01322/impl.Picture] -/
noncomputable def f91b_c : Code := match Try.f91.body with | some c => c | none => .skip
noncomputable def f91b_X : Ctx := ⟨TT, phiOf [(97, c97b)], noPsi⟩
def f91b_LV : List (Nat × Keep) := []
def f91b_rv : List ResultVar := [.tmp 4]
noncomputable def f91b_L (r : List A) : Nat → AS → Option (List A) := L f91b_X (cnOf f91b_LV) f91b_c (K0 TT f91b_rv) r
theorem f91b_ctx : CtxOK Try.prog f91b_X := ctx_of tab mix ⟨⟨Try.call97, f97b_sound⟩, trivial⟩
noncomputable def s91b (a0 : (List (Int × Int × (Nat → Int)))) (a1 : (List (Int × Int × (Nat → Int)))) : Option Bool := (Option.bind (s97b a0 a1) fun r1 => (some (decide (r1 ≥ 0))))
theorem f91b_top (a0 : (List (Int × Int × (Nat → Int)))) (a1 : (List (Int × Int × (Nat → Int)))) (r : List A) : ev f91b_X (lpc (cnOf f91b_LV) (f91b_L r)) f91b_c (K0 TT f91b_rv) (enter [.lst (.st [(.i .i8), (.i .i8), (.fa 144 .u8)]) a0, .clo 93 [.ref (.lst (.st [(.i .i8), (.i .i8), (.fa 144 .u8)]) a1)]]) = (Option.bind (s97b a0 a1) fun r1 => (some [.v (.bool (decide (r1 ≥ 0)))])) := by kernel_rfl
noncomputable def l91b (r : Bool) : List A := [.v (.bool r)]
theorem s91b_ok (a0 : (List (Int × Int × (Nat → Int)))) (a1 : (List (Int × Int × (Nat → Int)))) (v : Bool) (h : s91b a0 a1 = some v) : (Option.bind (s97b a0 a1) fun r1 => (some [.v (.bool (decide (r1 ≥ 0)))])) = some (l91b v) := by
  have e : (Option.bind (s97b a0 a1) fun r1 => (some [.v (.bool (decide (r1 ≥ 0)))])) = Option.map l91b (s91b a0 a1) := by
    unfold s91b
    exact (bind_app fun _ => rfl)
  rw [e, h]; rfl
noncomputable def c91b : List A → ACall
  | [.lst (.st [(.i .i8), (.i .i8), (.fa 144 .u8)]) a0, .clo 93 [.ref (.lst (.st [(.i .i8), (.i .i8), (.fa 144 .u8)]) a1)]] => ⟨Bool, s91b a0 a1, fun r => .one (.v (.bool r))⟩
  | _ => ACall.fail
theorem f91b_sound : Sound Try.prog 91 c91b := by
  refine sound_good f91b_ctx f91b_LV 2 Try.func91 (c := f91b_c) (by kernel_rfl) (rv := f91b_rv) (by kernel_rfl) (by kernel_rfl) (by kernel_rfl) (by kernel_rfl) fun rs => ?_
  unfold c91b
  split
  · rename_i a0 a1; intro v h; exact ⟨rfl, l91b v, rfl, (f91b_top a0 a1 _).trans (s91b_ok a0 a1 v h)⟩
  · intro v h; cases h
def m91b : List A → Bool
  | [_, .clo 93 _] => true
  | _ => false

/-! ### function 72: loop.example/g01322/impl.codeAlike -/
noncomputable def f72_c : Code := match Try.f72.body with | some c => c | none => .skip
noncomputable def f72_X : Ctx := ⟨TT, phiOf [(91, (orC m91a c91a c91b))], noPsi⟩
def f72_LV : List (Nat × Keep) := []
def f72_rv : List ResultVar := [.tmp 2]
noncomputable def f72_L (r : List A) : Nat → AS → Option (List A) := L f72_X (cnOf f72_LV) f72_c (K0 TT f72_rv) r
theorem f72_ctx : CtxOK Try.prog f72_X := ctx_of tab mix ⟨⟨Try.call91, (orSound f91a_sound f91b_sound)⟩, trivial⟩
noncomputable def s72 (a0 : (List (Int × Int × (Nat → Int)))) : Option Int := (Option.bind (s91a a0) fun r1 => (cond r1 (some 1) (Option.bind (s91b a0 a0) fun r2 => (cond r2 (some 4) (some 0)))))
theorem f72_top (a0 : (List (Int × Int × (Nat → Int)))) (r : List A) : ev f72_X (lpc (cnOf f72_LV) (f72_L r)) f72_c (K0 TT f72_rv) (enter [.lst (.st [(.i .i8), (.i .i8), (.fa 144 .u8)]) a0]) = (Option.bind (s91a a0) fun r1 => (cond r1 (some [.v (.int .i64 1)]) (Option.bind (s91b a0 a0) fun r2 => (cond r2 (some [.v (.int .i64 4)]) (some [.v (.int .i64 0)]))))) := by kernel_rfl
noncomputable def l72 (r : Int) : List A := [.v (.int .i64 r)]
theorem s72_ok (a0 : (List (Int × Int × (Nat → Int)))) (v : Int) (h : s72 a0 = some v) : (Option.bind (s91a a0) fun r1 => (cond r1 (some [.v (.int .i64 1)]) (Option.bind (s91b a0 a0) fun r2 => (cond r2 (some [.v (.int .i64 4)]) (some [.v (.int .i64 0)]))))) = some (l72 v) := by
  have e : (Option.bind (s91a a0) fun r1 => (cond r1 (some [.v (.int .i64 1)]) (Option.bind (s91b a0 a0) fun r2 => (cond r2 (some [.v (.int .i64 4)]) (some [.v (.int .i64 0)]))))) = Option.map l72 (s72 a0) := by
    unfold s72
    exact (bind_app fun _ => (cond_app (Option.map l72) rfl (bind_app fun _ => (cond_app (Option.map l72) rfl rfl))))
  rw [e, h]; rfl
noncomputable def c72 : List A → ACall
  | [.lst (.st [(.i .i8), (.i .i8), (.fa 144 .u8)]) a0] => ⟨Int, s72 a0, fun r => .one (.v (.int .i64 r))⟩
  | _ => ACall.fail
theorem f72_sound : Sound Try.prog 72 c72 := by
  refine sound_good f72_ctx f72_LV 1 Try.func72 (c := f72_c) (by kernel_rfl) (rv := f72_rv) (by kernel_rfl) (by kernel_rfl) (by kernel_rfl) (by kernel_rfl) fun rs => ?_
  unfold c72
  split
  · rename_i a0; intro v h; exact ⟨rfl, l72 v, rfl, (f72_top a0 _).trans (s72_ok a0 v h)⟩
  · intro v h; cases h

/-! ### function 35: loop.example/g01322/impl.StonesNeeded -/
noncomputable def f35_c : Code := match Try.f35.body with | some c => c | none => .skip
noncomputable def f35_X : Ctx := ⟨TT, phiOf [(72, c72)], noPsi⟩
def f35_LV : List (Nat × Keep) := [(6, ([2, 4, 6, 20, 21], [], []))]
def f35_rv : List ResultVar := [.cell 4 51, .tmp 5]
noncomputable def f35_L (r : List A) : Nat → AS → Option (List A) := L f35_X (cnOf f35_LV) f35_c (K0 TT f35_rv) r
theorem f35_ctx : CtxOK Try.prog f35_X := ctx_of tab mix ⟨⟨Try.call72, f72_sound⟩, trivial⟩
noncomputable def f35_s6 (x0 : (Nat → Int)) (x1 : Int) (x2 : Int) (x3 : Int) (x4 : (Nat → Int)) (x5 : (Nat → Int)) (x6 : (Nat → Int)) : AS := ⟨[(2, .a (.ptr 0 [] (0))), (4, .a (.ptr 1 [] (0))), (6, .a (.ptr 2 [] (0))), (20, .a (.fa 144 .u8 x0)), (21, .a (.v (.int .i64 x1)))], [(0, some ⟨true, .box (.rc [.v (.int .i8 x2), .v (.int .i8 x3), .fa 144 .u8 x4])⟩), (1, some ⟨true, .box (.fa 16 .i64 x5)⟩), (2, some ⟨true, .box (.fa 16 .i64 x6)⟩)], 3⟩
noncomputable def l35 (r : ((Nat → Int) × Int)) : List A := [.fa 16 .i64 r.1, .v (.int .i64 r.2)]
theorem f35_step6 (x0 : (Nat → Int)) (x1 : Int) (x2 : Int) (x3 : Int) (x4 : (Nat → Int)) (x5 : (Nat → Int)) (x6 : (Nat → Int)) (r : List A) (h : (cond (decide (x1 < 144)) (cond (inB x1 144) (cond ((x0 (Int.toNat x1)) != 0) (cond (inB x1 144) (cond ((x4 (Int.toNat x1)) == 0) (cond (inB (x0 (Int.toNat x1)) 16) (cond (inB (x0 (Int.toNat x1)) 16) (f35_L r 6 (f35_s6 x0 (IntKind.wrap .i64 (x1 + 1)) x2 x3 x4 x5 (upd x6 (Int.toNat (x0 (Int.toNat x1))) (IntKind.wrap .i64 ((x6 (Int.toNat (x0 (Int.toNat x1)))) + 1))))) none) none) (f35_L r 6 (f35_s6 x0 (IntKind.wrap .i64 (x1 + 1)) x2 x3 x4 x5 x6))) none) (f35_L r 6 (f35_s6 x0 (IntKind.wrap .i64 (x1 + 1)) x2 x3 x4 x5 x6))) none) (some [.fa 16 .i64 x6, .v (.int .i64 0)])) = some r) : f35_L r 6 (f35_s6 x0 x1 x2 x3 x4 x5 x6) = some r :=
  step_of' h (by kernel_rfl)
noncomputable def f35_n6 (x0 : (Nat → Int)) (x1 : Int) (x2 : Int) (x3 : Int) (x4 : (Nat → Int)) (x5 : (Nat → Int)) (x6 : (Nat → Int)) : Option (((Nat → Int) × Int × Int × Int × (Nat → Int) × (Nat → Int) × (Nat → Int)) ⊕ ((Nat → Int) × Int)) := (cond (decide (x1 < 144)) (cond (inB x1 144) (cond ((x0 (Int.toNat x1)) != 0) (cond (inB x1 144) (cond ((x4 (Int.toNat x1)) == 0) (cond (inB (x0 (Int.toNat x1)) 16) (cond (inB (x0 (Int.toNat x1)) 16) (some (Sum.inl (x0, (IntKind.wrap .i64 (x1 + 1)), x2, x3, x4, x5, (upd x6 (Int.toNat (x0 (Int.toNat x1))) (IntKind.wrap .i64 ((x6 (Int.toNat (x0 (Int.toNat x1)))) + 1)))))) none) none) (some (Sum.inl (x0, (IntKind.wrap .i64 (x1 + 1)), x2, x3, x4, x5, x6)))) none) (some (Sum.inl (x0, (IntKind.wrap .i64 (x1 + 1)), x2, x3, x4, x5, x6)))) none) (some (Sum.inr (x6, 0))))
noncomputable def f35_run6 (x : ((Nat → Int) × Int × Int × Int × (Nat → Int) × (Nat → Int) × (Nat → Int))) : Option ((Nat → Int) × Int) := iter (fun x => f35_n6 x.1 x.2.1 x.2.2.1 x.2.2.2.1 x.2.2.2.2.1 x.2.2.2.2.2.1 x.2.2.2.2.2.2) FU x
noncomputable def f35_G6 (r : List A) (x : ((Nat → Int) × Int × Int × Int × (Nat → Int) × (Nat → Int) × (Nat → Int))) : Prop := f35_L r 6 (f35_s6 x.1 x.2.1 x.2.2.1 x.2.2.2.1 x.2.2.2.2.1 x.2.2.2.2.2.1 x.2.2.2.2.2.2) = some r
noncomputable def f35_S6 (r : List A) : ((Nat → Int) × Int) → Prop := fun v => r = l35 v
theorem f35_go6 (r : List A) : ∀ x, sem (f35_S6 r) (f35_run6 x) → f35_G6 r x :=
  fun x => iter_sound (step := fun x => f35_n6 x.1 x.2.1 x.2.2.1 x.2.2.2.1 x.2.2.2.2.1 x.2.2.2.2.2.1 x.2.2.2.2.2.2) (fun x h => by
    unfold f35_n6 at h
    exact f35_step6 x.1 x.2.1 x.2.2.1 x.2.2.2.1 x.2.2.2.2.1 x.2.2.2.2.2.1 x.2.2.2.2.2.2 r ((sem_cond h (fun h => (sem_cond h (fun h => (sem_cond h (fun h => (sem_cond h (fun h => (sem_cond h (fun h => (sem_cond h (fun h => (sem_cond h (fun h => sem_got h fun q => q) (fun h => sem_none h))) (fun h => sem_none h))) (fun h => sem_got h fun q => q))) (fun h => sem_none h))) (fun h => sem_got h fun q => q))) (fun h => sem_none h))) (fun h => sem_got h fun q => some_eq q)))) FU x
noncomputable def s35 (a0 : Int) (a1 : Int) (a2 : (Nat → Int)) (a3 : Int) (a4 : Int) (a5 : (Nat → Int)) : Option ((Nat → Int) × Int) := (Option.bind (s72 [(a0, a1, a2), (a3, a4, a5)]) fun r1 => (cond (r1 != 0) (some (zF, r1)) (f35_run6 (a5, 0, a0, a1, a2, zF, zF))))
theorem f35_top (a0 : Int) (a1 : Int) (a2 : (Nat → Int)) (a3 : Int) (a4 : Int) (a5 : (Nat → Int)) (r : List A) : ev f35_X (lpc (cnOf f35_LV) (f35_L r)) f35_c (K0 TT f35_rv) (enter [.rc [.v (.int .i8 a0), .v (.int .i8 a1), .fa 144 .u8 a2], .rc [.v (.int .i8 a3), .v (.int .i8 a4), .fa 144 .u8 a5]]) = (Option.bind (s72 [(a0, a1, a2), (a3, a4, a5)]) fun r1 => (cond (r1 != 0) (some [.fa 16 .i64 zF, .v (.int .i64 r1)]) (f35_L r 6 (f35_s6 a5 0 a0 a1 a2 zF zF)))) := by kernel_rfl
theorem s35_ok (a0 : Int) (a1 : Int) (a2 : (Nat → Int)) (a3 : Int) (a4 : Int) (a5 : (Nat → Int)) (v : ((Nat → Int) × Int)) (h : s35 a0 a1 a2 a3 a4 a5 = some v) : (Option.bind (s72 [(a0, a1, a2), (a3, a4, a5)]) fun r1 => (cond (r1 != 0) (some [.fa 16 .i64 zF, .v (.int .i64 r1)]) (f35_L (l35 v) 6 (f35_s6 a5 0 a0 a1 a2 zF zF)))) = some (l35 v) := by
  unfold s35 at h
  have go : ∀ r, sem (fun v => r = l35 v) ((Option.bind (s72 [(a0, a1, a2), (a3, a4, a5)]) fun r1 => (cond (r1 != 0) (some (zF, r1)) (f35_run6 (a5, 0, a0, a1, a2, zF, zF))))) → (Option.bind (s72 [(a0, a1, a2), (a3, a4, a5)]) fun r1 => (cond (r1 != 0) (some [.fa 16 .i64 zF, .v (.int .i64 r1)]) (f35_L r 6 (f35_s6 a5 0 a0 a1 a2 zF zF)))) = some r := fun r h => (sem_bind h fun r1 h => (sem_cond h (fun h => sem_got h fun q => some_eq q) (fun h => f35_go6 r _ h)))
  exact go (l35 v) ⟨v, h, rfl⟩
noncomputable def c35 : List A → ACall
  | [.rc [.v (.int .i8 a0), .v (.int .i8 a1), .fa 144 .u8 a2], .rc [.v (.int .i8 a3), .v (.int .i8 a4), .fa 144 .u8 a5]] => ⟨((Nat → Int) × Int), s35 a0 a1 a2 a3 a4 a5, fun r => .tup [.fa 16 .i64 r.1, .v (.int .i64 r.2)]⟩
  | _ => ACall.fail
theorem f35_sound : Sound Try.prog 35 c35 := by
  refine sound_good f35_ctx f35_LV 2 Try.func35 (c := f35_c) (by kernel_rfl) (rv := f35_rv) (by kernel_rfl) (by kernel_rfl) (by kernel_rfl) (by kernel_rfl) fun rs => ?_
  unfold c35
  split
  · rename_i a0 a1 a2 a3 a4 a5; intro v h; exact ⟨rfl, l35 v, rfl, (f35_top a0 a1 a2 a3 a4 a5 _).trans (s35_ok a0 a1 a2 a3 a4 a5 v h)⟩
  · intro v h; cases h

/-! ### function 36: loop.example/g01322/laws.eqInt64A16 -/
noncomputable def f36_c : Code := match Try.f36.body with | some c => c | none => .skip
noncomputable def f36_X : Ctx := ⟨TT, phiOf [], noPsi⟩
def f36_LV : List (Nat × Keep) := [(2, ([2, 3, 5], [], []))]
def f36_rv : List ResultVar := [.tmp 4]
noncomputable def f36_L (r : List A) : Nat → AS → Option (List A) := L f36_X (cnOf f36_LV) f36_c (K0 TT f36_rv) r
theorem f36_ctx : CtxOK Try.prog f36_X := ctx_of tab mix trivial
noncomputable def f36_s2 (x0 : Int) (x1 : (Nat → Int)) (x2 : (Nat → Int)) : AS := ⟨[(2, .a (.ptr 0 [] (0))), (3, .a (.ptr 1 [] (0))), (5, .a (.v (.int .i64 x0)))], [(0, some ⟨true, .box (.fa 16 .i64 x1)⟩), (1, some ⟨true, .box (.fa 16 .i64 x2)⟩)], 2⟩
noncomputable def l36 (r : Bool) : List A := [.v (.bool r)]
theorem f36_step2 (x0 : Int) (x1 : (Nat → Int)) (x2 : (Nat → Int)) (r : List A) (h : (cond (decide (x0 < 16)) (cond (inB x0 16) (cond (inB x0 16) (cond ((x1 (Int.toNat x0)) != (x2 (Int.toNat x0))) (some [.v (.bool false)]) (f36_L r 2 (f36_s2 (IntKind.wrap .i64 (x0 + 1)) x1 x2))) none) none) (some [.v (.bool true)])) = some r) : f36_L r 2 (f36_s2 x0 x1 x2) = some r :=
  step_of' h (by kernel_rfl)
noncomputable def f36_n2 (x0 : Int) (x1 : (Nat → Int)) (x2 : (Nat → Int)) : Option ((Int × (Nat → Int) × (Nat → Int)) ⊕ Bool) := (cond (decide (x0 < 16)) (cond (inB x0 16) (cond (inB x0 16) (cond ((x1 (Int.toNat x0)) != (x2 (Int.toNat x0))) (some (Sum.inr false)) (some (Sum.inl ((IntKind.wrap .i64 (x0 + 1)), x1, x2)))) none) none) (some (Sum.inr true)))
noncomputable def f36_run2 (x : (Int × (Nat → Int) × (Nat → Int))) : Option Bool := iter (fun x => f36_n2 x.1 x.2.1 x.2.2) FU x
noncomputable def f36_G2 (r : List A) (x : (Int × (Nat → Int) × (Nat → Int))) : Prop := f36_L r 2 (f36_s2 x.1 x.2.1 x.2.2) = some r
noncomputable def f36_S2 (r : List A) : Bool → Prop := fun v => r = l36 v
theorem f36_go2 (r : List A) : ∀ x, sem (f36_S2 r) (f36_run2 x) → f36_G2 r x :=
  fun x => iter_sound (step := fun x => f36_n2 x.1 x.2.1 x.2.2) (fun x h => by
    unfold f36_n2 at h
    exact f36_step2 x.1 x.2.1 x.2.2 r ((sem_cond h (fun h => (sem_cond h (fun h => (sem_cond h (fun h => (sem_cond h (fun h => sem_got h fun q => some_eq q) (fun h => sem_got h fun q => q))) (fun h => sem_none h))) (fun h => sem_none h))) (fun h => sem_got h fun q => some_eq q)))) FU x
noncomputable def s36 (a0 : (Nat → Int)) (a1 : (Nat → Int)) : Option Bool := (f36_run2 (0, a0, a1))
theorem f36_top (a0 : (Nat → Int)) (a1 : (Nat → Int)) (r : List A) : ev f36_X (lpc (cnOf f36_LV) (f36_L r)) f36_c (K0 TT f36_rv) (enter [.fa 16 .i64 a0, .fa 16 .i64 a1]) = (f36_L r 2 (f36_s2 0 a0 a1)) := by kernel_rfl
theorem s36_ok (a0 : (Nat → Int)) (a1 : (Nat → Int)) (v : Bool) (h : s36 a0 a1 = some v) : (f36_L (l36 v) 2 (f36_s2 0 a0 a1)) = some (l36 v) := by
  unfold s36 at h
  have go : ∀ r, sem (fun v => r = l36 v) ((f36_run2 (0, a0, a1))) → (f36_L r 2 (f36_s2 0 a0 a1)) = some r := fun r h => f36_go2 r _ h
  exact go (l36 v) ⟨v, h, rfl⟩
noncomputable def c36 : List A → ACall
  | [.fa 16 .i64 a0, .fa 16 .i64 a1] => ⟨Bool, s36 a0 a1, fun r => .one (.v (.bool r))⟩
  | _ => ACall.fail
theorem f36_sound : Sound Try.prog 36 c36 := by
  refine sound_good f36_ctx f36_LV 2 Try.func36 (c := f36_c) (by kernel_rfl) (rv := f36_rv) (by kernel_rfl) (by kernel_rfl) (by kernel_rfl) (by kernel_rfl) fun rs => ?_
  unfold c36
  split
  · rename_i a0 a1; intro v h; exact ⟨rfl, l36 v, rfl, (f36_top a0 a1 _).trans (s36_ok a0 a1 v h)⟩
  · intro v h; cases h

/-! ### function 9: loop.example/g01322/laws.FnExactStonesNeeded -/
noncomputable def f9_c : Code := match Try.f9.body with | some c => c | none => .skip
noncomputable def f9_X : Ctx := ⟨TT, phiOf [(16, c16), (34, c34), (35, c35), (36, c36)], noPsi⟩
def f9_LV : List (Nat × Keep) := []
def f9_rv : List ResultVar := [.tmp 4]
noncomputable def f9_L (r : List A) : Nat → AS → Option (List A) := L f9_X (cnOf f9_LV) f9_c (K0 TT f9_rv) r
theorem f9_ctx : CtxOK Try.prog f9_X := ctx_of tab mix ⟨⟨Try.call16, f16_sound⟩, ⟨Try.call34, f34_sound⟩, ⟨Try.call35, f35_sound⟩, ⟨Try.call36, f36_sound⟩, trivial⟩
noncomputable def s9 (a0 : Int) (a1 : Int) (a2 : (Nat → Int)) (a3 : Int) (a4 : Int) (a5 : (Nat → Int)) : Option Bool := (Option.bind (s34 (s16 a0 a1 a2).1 (s16 a0 a1 a2).2.1 (s16 a0 a1 a2).2.2 (s16 a3 a4 a5).1 (s16 a3 a4 a5).2.1 (s16 a3 a4 a5).2.2) fun r1 => (Option.bind (s35 (s16 a0 a1 a2).1 (s16 a0 a1 a2).2.1 (s16 a0 a1 a2).2.2 (s16 a3 a4 a5).1 (s16 a3 a4 a5).2.1 (s16 a3 a4 a5).2.2) fun r2 => (Option.bind (s36 (r2.1) (r1.1)) fun r3 => (cond (!r3) (some false) (cond (r2.2 != r1.2) (some false) (some true))))))
theorem f9_top (a0 : Int) (a1 : Int) (a2 : (Nat → Int)) (a3 : Int) (a4 : Int) (a5 : (Nat → Int)) (r : List A) : ev f9_X (lpc (cnOf f9_LV) (f9_L r)) f9_c (K0 TT f9_rv) (enter [.rc [.v (.int .i8 a0), .v (.int .i8 a1), .fa 144 .u8 a2], .rc [.v (.int .i8 a3), .v (.int .i8 a4), .fa 144 .u8 a5]]) = (Option.bind (s34 (s16 a0 a1 a2).1 (s16 a0 a1 a2).2.1 (s16 a0 a1 a2).2.2 (s16 a3 a4 a5).1 (s16 a3 a4 a5).2.1 (s16 a3 a4 a5).2.2) fun r1 => (Option.bind (s35 (s16 a0 a1 a2).1 (s16 a0 a1 a2).2.1 (s16 a0 a1 a2).2.2 (s16 a3 a4 a5).1 (s16 a3 a4 a5).2.1 (s16 a3 a4 a5).2.2) fun r2 => (Option.bind (s36 (r2.1) (r1.1)) fun r3 => (cond (!r3) (some [.v (.bool false)]) (cond (r2.2 != r1.2) (some [.v (.bool false)]) (some [.v (.bool true)])))))) := by kernel_rfl
noncomputable def l9 (r : Bool) : List A := [.v (.bool r)]
theorem s9_ok (a0 : Int) (a1 : Int) (a2 : (Nat → Int)) (a3 : Int) (a4 : Int) (a5 : (Nat → Int)) (v : Bool) (h : s9 a0 a1 a2 a3 a4 a5 = some v) : (Option.bind (s34 (s16 a0 a1 a2).1 (s16 a0 a1 a2).2.1 (s16 a0 a1 a2).2.2 (s16 a3 a4 a5).1 (s16 a3 a4 a5).2.1 (s16 a3 a4 a5).2.2) fun r1 => (Option.bind (s35 (s16 a0 a1 a2).1 (s16 a0 a1 a2).2.1 (s16 a0 a1 a2).2.2 (s16 a3 a4 a5).1 (s16 a3 a4 a5).2.1 (s16 a3 a4 a5).2.2) fun r2 => (Option.bind (s36 (r2.1) (r1.1)) fun r3 => (cond (!r3) (some [.v (.bool false)]) (cond (r2.2 != r1.2) (some [.v (.bool false)]) (some [.v (.bool true)])))))) = some (l9 v) := by
  have e : (Option.bind (s34 (s16 a0 a1 a2).1 (s16 a0 a1 a2).2.1 (s16 a0 a1 a2).2.2 (s16 a3 a4 a5).1 (s16 a3 a4 a5).2.1 (s16 a3 a4 a5).2.2) fun r1 => (Option.bind (s35 (s16 a0 a1 a2).1 (s16 a0 a1 a2).2.1 (s16 a0 a1 a2).2.2 (s16 a3 a4 a5).1 (s16 a3 a4 a5).2.1 (s16 a3 a4 a5).2.2) fun r2 => (Option.bind (s36 (r2.1) (r1.1)) fun r3 => (cond (!r3) (some [.v (.bool false)]) (cond (r2.2 != r1.2) (some [.v (.bool false)]) (some [.v (.bool true)])))))) = Option.map l9 (s9 a0 a1 a2 a3 a4 a5) := by
    unfold s9
    exact (bind_app fun _ => (bind_app fun _ => (bind_app fun _ => (cond_app (Option.map l9) rfl (cond_app (Option.map l9) rfl rfl)))))
  rw [e, h]; rfl
noncomputable def c9 : List A → ACall
  | [.rc [.v (.int .i8 a0), .v (.int .i8 a1), .fa 144 .u8 a2], .rc [.v (.int .i8 a3), .v (.int .i8 a4), .fa 144 .u8 a5]] => ⟨Bool, s9 a0 a1 a2 a3 a4 a5, fun r => .one (.v (.bool r))⟩
  | _ => ACall.fail
theorem f9_sound : Sound Try.prog 9 c9 := by
  refine sound_good f9_ctx f9_LV 2 Try.func9 (c := f9_c) (by kernel_rfl) (rv := f9_rv) (by kernel_rfl) (by kernel_rfl) (by kernel_rfl) (by kernel_rfl) fun rs => ?_
  unfold c9
  split
  · rename_i a0 a1 a2 a3 a4 a5; intro v h; exact ⟨rfl, l9 v, rfl, (f9_top a0 a1 a2 a3 a4 a5 _).trans (s9_ok a0 a1 a2 a3 a4 a5 v h)⟩
  · intro v h; cases h

/-! ### function 73: loop.example/g01322/spec.l06Agree -/
noncomputable def f73_c : Code := match Try.f73.body with | some c => c | none => .skip
noncomputable def f73_X : Ctx := ⟨TT, phiOf [], noPsi⟩
def f73_LV : List (Nat × Keep) := [(4, ([0, 1, 6, 7, 8], [], []))]
def f73_rv : List ResultVar := [.tmp 4, .tmp 5]
noncomputable def f73_L (r : List A) : Nat → AS → Option (List A) := L f73_X (cnOf f73_LV) f73_c (K0 TT f73_rv) r
theorem f73_ctx : CtxOK Try.prog f73_X := ctx_of tab mix trivial
noncomputable def f73_s4 (x0 : Int) (x1 : Int) (x2 : Int) (x3 : Int) (x4 : Int) (x5 : (Nat → Int)) (x6 : Int) (x7 : Int) (x8 : (Nat → Int)) : AS := ⟨[(0, .a (.ptr 0 [] (0))), (1, .a (.ptr 1 [] (0))), (6, .a (.v (.int .i64 x0))), (7, .a (.v (.int .i64 x1))), (8, .a (.v (.int .i64 x2)))], [(0, some ⟨false, .box (.rc [.v (.int .i8 x3), .v (.int .i8 x4), .fa 144 .u8 x5])⟩), (1, some ⟨false, .box (.rc [.v (.int .i8 x6), .v (.int .i8 x7), .fa 144 .u8 x8])⟩)], 2⟩
noncomputable def l73 (r : (Int × Int)) : List A := [.v (.int .i64 r.1), .v (.int .i64 r.2)]
theorem f73_step4 (x0 : Int) (x1 : Int) (x2 : Int) (x3 : Int) (x4 : Int) (x5 : (Nat → Int)) (x6 : Int) (x7 : Int) (x8 : (Nat → Int)) (r : List A) (h : (cond (decide (x2 < 144)) (cond (inB x2 144) (cond ((x5 (Int.toNat x2)) == 0) (f73_L r 4 (f73_s4 x0 x1 (IntKind.wrap .i64 (x2 + 1)) x3 x4 x5 x6 x7 x8)) (cond (inB x2 144) (cond ((x8 (Int.toNat x2)) == 0) (f73_L r 4 (f73_s4 x0 x1 (IntKind.wrap .i64 (x2 + 1)) x3 x4 x5 x6 x7 x8)) (cond (inB x2 144) (cond (inB x2 144) (cond ((x5 (Int.toNat x2)) == (x8 (Int.toNat x2))) (f73_L r 4 (f73_s4 (IntKind.wrap .i64 (x0 + 1)) x1 (IntKind.wrap .i64 (x2 + 1)) x3 x4 x5 x6 x7 x8)) (f73_L r 4 (f73_s4 x0 (IntKind.wrap .i64 (x1 + 1)) (IntKind.wrap .i64 (x2 + 1)) x3 x4 x5 x6 x7 x8))) none) none)) none)) none) (some [.v (.int .i64 x0), .v (.int .i64 x1)])) = some r) : f73_L r 4 (f73_s4 x0 x1 x2 x3 x4 x5 x6 x7 x8) = some r :=
  step_of' h (by kernel_rfl)
noncomputable def f73_n4 (x0 : Int) (x1 : Int) (x2 : Int) (x3 : Int) (x4 : Int) (x5 : (Nat → Int)) (x6 : Int) (x7 : Int) (x8 : (Nat → Int)) : Option ((Int × Int × Int × Int × Int × (Nat → Int) × Int × Int × (Nat → Int)) ⊕ (Int × Int)) := (cond (decide (x2 < 144)) (cond (inB x2 144) (cond ((x5 (Int.toNat x2)) == 0) (some (Sum.inl (x0, x1, (IntKind.wrap .i64 (x2 + 1)), x3, x4, x5, x6, x7, x8))) (cond (inB x2 144) (cond ((x8 (Int.toNat x2)) == 0) (some (Sum.inl (x0, x1, (IntKind.wrap .i64 (x2 + 1)), x3, x4, x5, x6, x7, x8))) (cond (inB x2 144) (cond (inB x2 144) (cond ((x5 (Int.toNat x2)) == (x8 (Int.toNat x2))) (some (Sum.inl ((IntKind.wrap .i64 (x0 + 1)), x1, (IntKind.wrap .i64 (x2 + 1)), x3, x4, x5, x6, x7, x8))) (some (Sum.inl (x0, (IntKind.wrap .i64 (x1 + 1)), (IntKind.wrap .i64 (x2 + 1)), x3, x4, x5, x6, x7, x8)))) none) none)) none)) none) (some (Sum.inr (x0, x1))))
noncomputable def f73_run4 (x : (Int × Int × Int × Int × Int × (Nat → Int) × Int × Int × (Nat → Int))) : Option (Int × Int) := iter (fun x => f73_n4 x.1 x.2.1 x.2.2.1 x.2.2.2.1 x.2.2.2.2.1 x.2.2.2.2.2.1 x.2.2.2.2.2.2.1 x.2.2.2.2.2.2.2.1 x.2.2.2.2.2.2.2.2) FU x
noncomputable def f73_G4 (r : List A) (x : (Int × Int × Int × Int × Int × (Nat → Int) × Int × Int × (Nat → Int))) : Prop := f73_L r 4 (f73_s4 x.1 x.2.1 x.2.2.1 x.2.2.2.1 x.2.2.2.2.1 x.2.2.2.2.2.1 x.2.2.2.2.2.2.1 x.2.2.2.2.2.2.2.1 x.2.2.2.2.2.2.2.2) = some r
noncomputable def f73_S4 (r : List A) : (Int × Int) → Prop := fun v => r = l73 v
theorem f73_go4 (r : List A) : ∀ x, sem (f73_S4 r) (f73_run4 x) → f73_G4 r x :=
  fun x => iter_sound (step := fun x => f73_n4 x.1 x.2.1 x.2.2.1 x.2.2.2.1 x.2.2.2.2.1 x.2.2.2.2.2.1 x.2.2.2.2.2.2.1 x.2.2.2.2.2.2.2.1 x.2.2.2.2.2.2.2.2) (fun x h => by
    unfold f73_n4 at h
    exact f73_step4 x.1 x.2.1 x.2.2.1 x.2.2.2.1 x.2.2.2.2.1 x.2.2.2.2.2.1 x.2.2.2.2.2.2.1 x.2.2.2.2.2.2.2.1 x.2.2.2.2.2.2.2.2 r ((sem_cond h (fun h => (sem_cond h (fun h => (sem_cond h (fun h => sem_got h fun q => q) (fun h => (sem_cond h (fun h => (sem_cond h (fun h => sem_got h fun q => q) (fun h => (sem_cond h (fun h => (sem_cond h (fun h => (sem_cond h (fun h => sem_got h fun q => q) (fun h => sem_got h fun q => q))) (fun h => sem_none h))) (fun h => sem_none h))))) (fun h => sem_none h))))) (fun h => sem_none h))) (fun h => sem_got h fun q => some_eq q)))) FU x
noncomputable def s73 (a0 : Int) (a1 : Int) (a2 : (Nat → Int)) (a3 : Int) (a4 : Int) (a5 : (Nat → Int)) : Option (Int × Int) := (f73_run4 (0, 0, 0, a0, a1, a2, a3, a4, a5))
theorem f73_top (a0 : Int) (a1 : Int) (a2 : (Nat → Int)) (a3 : Int) (a4 : Int) (a5 : (Nat → Int)) (r : List A) : ev f73_X (lpc (cnOf f73_LV) (f73_L r)) f73_c (K0 TT f73_rv) (enter [.ref (.rc [.v (.int .i8 a0), .v (.int .i8 a1), .fa 144 .u8 a2]), .ref (.rc [.v (.int .i8 a3), .v (.int .i8 a4), .fa 144 .u8 a5])]) = (f73_L r 4 (f73_s4 0 0 0 a0 a1 a2 a3 a4 a5)) := by kernel_rfl
theorem s73_ok (a0 : Int) (a1 : Int) (a2 : (Nat → Int)) (a3 : Int) (a4 : Int) (a5 : (Nat → Int)) (v : (Int × Int)) (h : s73 a0 a1 a2 a3 a4 a5 = some v) : (f73_L (l73 v) 4 (f73_s4 0 0 0 a0 a1 a2 a3 a4 a5)) = some (l73 v) := by
  unfold s73 at h
  have go : ∀ r, sem (fun v => r = l73 v) ((f73_run4 (0, 0, 0, a0, a1, a2, a3, a4, a5))) → (f73_L r 4 (f73_s4 0 0 0 a0 a1 a2 a3 a4 a5)) = some r := fun r h => f73_go4 r _ h
  exact go (l73 v) ⟨v, h, rfl⟩
noncomputable def c73 : List A → ACall
  | [.ref (.rc [.v (.int .i8 a0), .v (.int .i8 a1), .fa 144 .u8 a2]), .ref (.rc [.v (.int .i8 a3), .v (.int .i8 a4), .fa 144 .u8 a5])] => ⟨(Int × Int), s73 a0 a1 a2 a3 a4 a5, fun r => .tup [.v (.int .i64 r.1), .v (.int .i64 r.2)]⟩
  | _ => ACall.fail
theorem f73_sound : Sound Try.prog 73 c73 := by
  refine sound_good f73_ctx f73_LV 2 Try.func73 (c := f73_c) (by kernel_rfl) (rv := f73_rv) (by kernel_rfl) (by kernel_rfl) (by kernel_rfl) (by kernel_rfl) fun rs => ?_
  unfold c73
  split
  · rename_i a0 a1 a2 a3 a4 a5; intro v h; exact ⟨rfl, l73 v, rfl, (f73_top a0 a1 a2 a3 a4 a5 _).trans (s73_ok a0 a1 a2 a3 a4 a5 v h)⟩
  · intro v h; cases h

/-! ### function 37: loop.example/g01322/spec.Agreement -/
noncomputable def f37_c : Code := match Try.f37.body with | some c => c | none => .skip
noncomputable def f37_X : Ctx := ⟨TT, phiOf [(71, c71), (73, c73)], noPsi⟩
def f37_LV : List (Nat × Keep) := []
def f37_rv : List ResultVar := [.tmp 4, .tmp 5, .tmp 6]
noncomputable def f37_L (r : List A) : Nat → AS → Option (List A) := L f37_X (cnOf f37_LV) f37_c (K0 TT f37_rv) r
theorem f37_ctx : CtxOK Try.prog f37_X := ctx_of tab mix ⟨⟨Try.call71, f71_sound⟩, ⟨Try.call73, f73_sound⟩, trivial⟩
noncomputable def s37 (a0 : Int) (a1 : Int) (a2 : (Nat → Int)) (a3 : Int) (a4 : Int) (a5 : (Nat → Int)) : Option (Int × Int × Int) := (Option.bind (s71 [(a0, a1, a2), (a3, a4, a5)]) fun r1 => (cond (r1 != 0) (some (0, 0, r1)) (Option.bind (s73 a0 a1 a2 a3 a4 a5) fun r2 => (some ((r2.1), (r2.2), 0)))))
theorem f37_top (a0 : Int) (a1 : Int) (a2 : (Nat → Int)) (a3 : Int) (a4 : Int) (a5 : (Nat → Int)) (r : List A) : ev f37_X (lpc (cnOf f37_LV) (f37_L r)) f37_c (K0 TT f37_rv) (enter [.rc [.v (.int .i8 a0), .v (.int .i8 a1), .fa 144 .u8 a2], .rc [.v (.int .i8 a3), .v (.int .i8 a4), .fa 144 .u8 a5]]) = (Option.bind (s71 [(a0, a1, a2), (a3, a4, a5)]) fun r1 => (cond (r1 != 0) (some [.v (.int .i64 0), .v (.int .i64 0), .v (.int .i64 r1)]) (Option.bind (s73 a0 a1 a2 a3 a4 a5) fun r2 => (some [.v (.int .i64 r2.1), .v (.int .i64 r2.2), .v (.int .i64 0)])))) := by kernel_rfl
noncomputable def l37 (r : (Int × Int × Int)) : List A := [.v (.int .i64 r.1), .v (.int .i64 r.2.1), .v (.int .i64 r.2.2)]
theorem s37_ok (a0 : Int) (a1 : Int) (a2 : (Nat → Int)) (a3 : Int) (a4 : Int) (a5 : (Nat → Int)) (v : (Int × Int × Int)) (h : s37 a0 a1 a2 a3 a4 a5 = some v) : (Option.bind (s71 [(a0, a1, a2), (a3, a4, a5)]) fun r1 => (cond (r1 != 0) (some [.v (.int .i64 0), .v (.int .i64 0), .v (.int .i64 r1)]) (Option.bind (s73 a0 a1 a2 a3 a4 a5) fun r2 => (some [.v (.int .i64 r2.1), .v (.int .i64 r2.2), .v (.int .i64 0)])))) = some (l37 v) := by
  have e : (Option.bind (s71 [(a0, a1, a2), (a3, a4, a5)]) fun r1 => (cond (r1 != 0) (some [.v (.int .i64 0), .v (.int .i64 0), .v (.int .i64 r1)]) (Option.bind (s73 a0 a1 a2 a3 a4 a5) fun r2 => (some [.v (.int .i64 r2.1), .v (.int .i64 r2.2), .v (.int .i64 0)])))) = Option.map l37 (s37 a0 a1 a2 a3 a4 a5) := by
    unfold s37
    exact (bind_app fun _ => (cond_app (Option.map l37) rfl (bind_app fun _ => rfl)))
  rw [e, h]; rfl
noncomputable def c37 : List A → ACall
  | [.rc [.v (.int .i8 a0), .v (.int .i8 a1), .fa 144 .u8 a2], .rc [.v (.int .i8 a3), .v (.int .i8 a4), .fa 144 .u8 a5]] => ⟨(Int × Int × Int), s37 a0 a1 a2 a3 a4 a5, fun r => .tup [.v (.int .i64 r.1), .v (.int .i64 r.2.1), .v (.int .i64 r.2.2)]⟩
  | _ => ACall.fail
theorem f37_sound : Sound Try.prog 37 c37 := by
  refine sound_good f37_ctx f37_LV 2 Try.func37 (c := f37_c) (by kernel_rfl) (rv := f37_rv) (by kernel_rfl) (by kernel_rfl) (by kernel_rfl) (by kernel_rfl) fun rs => ?_
  unfold c37
  split
  · rename_i a0 a1 a2 a3 a4 a5; intro v h; exact ⟨rfl, l37 v, rfl, (f37_top a0 a1 a2 a3 a4 a5 _).trans (s37_ok a0 a1 a2 a3 a4 a5 v h)⟩
  · intro v h; cases h

/-! ### function 74: loop.example/g01322/impl.agreement -/
noncomputable def f74_c : Code := match Try.f74.body with | some c => c | none => .skip
noncomputable def f74_X : Ctx := ⟨TT, phiOf [], noPsi⟩
def f74_LV : List (Nat × Keep) := [(3, ([3, 6, 7, 11, 12], [], []))]
def f74_rv : List ResultVar := [.tmp 4, .tmp 5]
noncomputable def f74_L (r : List A) : Nat → AS → Option (List A) := L f74_X (cnOf f74_LV) f74_c (K0 TT f74_rv) r
theorem f74_ctx : CtxOK Try.prog f74_X := ctx_of tab mix trivial
noncomputable def f74_s3 (x0 : Int) (x1 : Int) (x2 : (Nat → Int)) (x3 : Int) (x4 : Int) (x5 : Int) (x6 : (Nat → Int)) : AS := ⟨[(3, .a (.ptr 0 [] (0))), (6, .a (.v (.int .i64 x0))), (7, .a (.v (.int .i64 x1))), (11, .a (.fa 144 .u8 x2)), (12, .a (.v (.int .i64 x3)))], [(0, some ⟨true, .box (.rc [.v (.int .i8 x4), .v (.int .i8 x5), .fa 144 .u8 x6])⟩)], 1⟩
noncomputable def l74 (r : (Int × Int)) : List A := [.v (.int .i64 r.1), .v (.int .i64 r.2)]
theorem f74_step3 (x0 : Int) (x1 : Int) (x2 : (Nat → Int)) (x3 : Int) (x4 : Int) (x5 : Int) (x6 : (Nat → Int)) (r : List A) (h : (cond (decide (x3 < 144)) (cond (inB x3 144) (cond ((x2 (Int.toNat x3)) == 0) (f74_L r 3 (f74_s3 x0 x1 x2 (IntKind.wrap .i64 (x3 + 1)) x4 x5 x6)) (cond (inB x3 144) (cond ((x6 (Int.toNat x3)) == 0) (f74_L r 3 (f74_s3 x0 x1 x2 (IntKind.wrap .i64 (x3 + 1)) x4 x5 x6)) (cond (inB x3 144) (cond ((x2 (Int.toNat x3)) == (x6 (Int.toNat x3))) (f74_L r 3 (f74_s3 (IntKind.wrap .i64 (x0 + 1)) x1 x2 (IntKind.wrap .i64 (x3 + 1)) x4 x5 x6)) (f74_L r 3 (f74_s3 x0 (IntKind.wrap .i64 (x1 + 1)) x2 (IntKind.wrap .i64 (x3 + 1)) x4 x5 x6))) none)) none)) none) (some [.v (.int .i64 x0), .v (.int .i64 x1)])) = some r) : f74_L r 3 (f74_s3 x0 x1 x2 x3 x4 x5 x6) = some r :=
  step_of' h (by kernel_rfl)
noncomputable def f74_n3 (x0 : Int) (x1 : Int) (x2 : (Nat → Int)) (x3 : Int) (x4 : Int) (x5 : Int) (x6 : (Nat → Int)) : Option ((Int × Int × (Nat → Int) × Int × Int × Int × (Nat → Int)) ⊕ (Int × Int)) := (cond (decide (x3 < 144)) (cond (inB x3 144) (cond ((x2 (Int.toNat x3)) == 0) (some (Sum.inl (x0, x1, x2, (IntKind.wrap .i64 (x3 + 1)), x4, x5, x6))) (cond (inB x3 144) (cond ((x6 (Int.toNat x3)) == 0) (some (Sum.inl (x0, x1, x2, (IntKind.wrap .i64 (x3 + 1)), x4, x5, x6))) (cond (inB x3 144) (cond ((x2 (Int.toNat x3)) == (x6 (Int.toNat x3))) (some (Sum.inl ((IntKind.wrap .i64 (x0 + 1)), x1, x2, (IntKind.wrap .i64 (x3 + 1)), x4, x5, x6))) (some (Sum.inl (x0, (IntKind.wrap .i64 (x1 + 1)), x2, (IntKind.wrap .i64 (x3 + 1)), x4, x5, x6)))) none)) none)) none) (some (Sum.inr (x0, x1))))
noncomputable def f74_run3 (x : (Int × Int × (Nat → Int) × Int × Int × Int × (Nat → Int))) : Option (Int × Int) := iter (fun x => f74_n3 x.1 x.2.1 x.2.2.1 x.2.2.2.1 x.2.2.2.2.1 x.2.2.2.2.2.1 x.2.2.2.2.2.2) FU x
noncomputable def f74_G3 (r : List A) (x : (Int × Int × (Nat → Int) × Int × Int × Int × (Nat → Int))) : Prop := f74_L r 3 (f74_s3 x.1 x.2.1 x.2.2.1 x.2.2.2.1 x.2.2.2.2.1 x.2.2.2.2.2.1 x.2.2.2.2.2.2) = some r
noncomputable def f74_S3 (r : List A) : (Int × Int) → Prop := fun v => r = l74 v
theorem f74_go3 (r : List A) : ∀ x, sem (f74_S3 r) (f74_run3 x) → f74_G3 r x :=
  fun x => iter_sound (step := fun x => f74_n3 x.1 x.2.1 x.2.2.1 x.2.2.2.1 x.2.2.2.2.1 x.2.2.2.2.2.1 x.2.2.2.2.2.2) (fun x h => by
    unfold f74_n3 at h
    exact f74_step3 x.1 x.2.1 x.2.2.1 x.2.2.2.1 x.2.2.2.2.1 x.2.2.2.2.2.1 x.2.2.2.2.2.2 r ((sem_cond h (fun h => (sem_cond h (fun h => (sem_cond h (fun h => sem_got h fun q => q) (fun h => (sem_cond h (fun h => (sem_cond h (fun h => sem_got h fun q => q) (fun h => (sem_cond h (fun h => (sem_cond h (fun h => sem_got h fun q => q) (fun h => sem_got h fun q => q))) (fun h => sem_none h))))) (fun h => sem_none h))))) (fun h => sem_none h))) (fun h => sem_got h fun q => some_eq q)))) FU x
noncomputable def s74 (a0 : Int) (a1 : Int) (a2 : (Nat → Int)) (a3 : Int) (a4 : Int) (a5 : (Nat → Int)) : Option (Int × Int) := (f74_run3 (0, 0, a2, 0, a3, a4, a5))
theorem f74_top (a0 : Int) (a1 : Int) (a2 : (Nat → Int)) (a3 : Int) (a4 : Int) (a5 : (Nat → Int)) (r : List A) : ev f74_X (lpc (cnOf f74_LV) (f74_L r)) f74_c (K0 TT f74_rv) (enter [.rc [.v (.int .i8 a0), .v (.int .i8 a1), .fa 144 .u8 a2], .rc [.v (.int .i8 a3), .v (.int .i8 a4), .fa 144 .u8 a5]]) = (f74_L r 3 (f74_s3 0 0 a2 0 a3 a4 a5)) := by kernel_rfl
theorem s74_ok (a0 : Int) (a1 : Int) (a2 : (Nat → Int)) (a3 : Int) (a4 : Int) (a5 : (Nat → Int)) (v : (Int × Int)) (h : s74 a0 a1 a2 a3 a4 a5 = some v) : (f74_L (l74 v) 3 (f74_s3 0 0 a2 0 a3 a4 a5)) = some (l74 v) := by
  unfold s74 at h
  have go : ∀ r, sem (fun v => r = l74 v) ((f74_run3 (0, 0, a2, 0, a3, a4, a5))) → (f74_L r 3 (f74_s3 0 0 a2 0 a3 a4 a5)) = some r := fun r h => f74_go3 r _ h
  exact go (l74 v) ⟨v, h, rfl⟩
noncomputable def c74 : List A → ACall
  | [.rc [.v (.int .i8 a0), .v (.int .i8 a1), .fa 144 .u8 a2], .rc [.v (.int .i8 a3), .v (.int .i8 a4), .fa 144 .u8 a5]] => ⟨(Int × Int), s74 a0 a1 a2 a3 a4 a5, fun r => .tup [.v (.int .i64 r.1), .v (.int .i64 r.2)]⟩
  | _ => ACall.fail
theorem f74_sound : Sound Try.prog 74 c74 := by
  refine sound_good f74_ctx f74_LV 2 Try.func74 (c := f74_c) (by kernel_rfl) (rv := f74_rv) (by kernel_rfl) (by kernel_rfl) (by kernel_rfl) (by kernel_rfl) fun rs => ?_
  unfold c74
  split
  · rename_i a0 a1 a2 a3 a4 a5; intro v h; exact ⟨rfl, l74 v, rfl, (f74_top a0 a1 a2 a3 a4 a5 _).trans (s74_ok a0 a1 a2 a3 a4 a5 v h)⟩
  · intro v h; cases h

/-! ### function 38: loop.example/g01322/impl.Agreement -/
noncomputable def f38_c : Code := match Try.f38.body with | some c => c | none => .skip
noncomputable def f38_X : Ctx := ⟨TT, phiOf [(72, c72), (74, c74)], noPsi⟩
def f38_LV : List (Nat × Keep) := []
def f38_rv : List ResultVar := [.tmp 4, .tmp 5, .tmp 6]
noncomputable def f38_L (r : List A) : Nat → AS → Option (List A) := L f38_X (cnOf f38_LV) f38_c (K0 TT f38_rv) r
theorem f38_ctx : CtxOK Try.prog f38_X := ctx_of tab mix ⟨⟨Try.call72, f72_sound⟩, ⟨Try.call74, f74_sound⟩, trivial⟩
noncomputable def s38 (a0 : Int) (a1 : Int) (a2 : (Nat → Int)) (a3 : Int) (a4 : Int) (a5 : (Nat → Int)) : Option (Int × Int × Int) := (Option.bind (s72 [(a0, a1, a2), (a3, a4, a5)]) fun r1 => (cond (r1 != 0) (some (0, 0, r1)) (Option.bind (s74 a0 a1 a2 a3 a4 a5) fun r2 => (some ((r2.1), (r2.2), 0)))))
theorem f38_top (a0 : Int) (a1 : Int) (a2 : (Nat → Int)) (a3 : Int) (a4 : Int) (a5 : (Nat → Int)) (r : List A) : ev f38_X (lpc (cnOf f38_LV) (f38_L r)) f38_c (K0 TT f38_rv) (enter [.rc [.v (.int .i8 a0), .v (.int .i8 a1), .fa 144 .u8 a2], .rc [.v (.int .i8 a3), .v (.int .i8 a4), .fa 144 .u8 a5]]) = (Option.bind (s72 [(a0, a1, a2), (a3, a4, a5)]) fun r1 => (cond (r1 != 0) (some [.v (.int .i64 0), .v (.int .i64 0), .v (.int .i64 r1)]) (Option.bind (s74 a0 a1 a2 a3 a4 a5) fun r2 => (some [.v (.int .i64 r2.1), .v (.int .i64 r2.2), .v (.int .i64 0)])))) := by kernel_rfl
noncomputable def l38 (r : (Int × Int × Int)) : List A := [.v (.int .i64 r.1), .v (.int .i64 r.2.1), .v (.int .i64 r.2.2)]
theorem s38_ok (a0 : Int) (a1 : Int) (a2 : (Nat → Int)) (a3 : Int) (a4 : Int) (a5 : (Nat → Int)) (v : (Int × Int × Int)) (h : s38 a0 a1 a2 a3 a4 a5 = some v) : (Option.bind (s72 [(a0, a1, a2), (a3, a4, a5)]) fun r1 => (cond (r1 != 0) (some [.v (.int .i64 0), .v (.int .i64 0), .v (.int .i64 r1)]) (Option.bind (s74 a0 a1 a2 a3 a4 a5) fun r2 => (some [.v (.int .i64 r2.1), .v (.int .i64 r2.2), .v (.int .i64 0)])))) = some (l38 v) := by
  have e : (Option.bind (s72 [(a0, a1, a2), (a3, a4, a5)]) fun r1 => (cond (r1 != 0) (some [.v (.int .i64 0), .v (.int .i64 0), .v (.int .i64 r1)]) (Option.bind (s74 a0 a1 a2 a3 a4 a5) fun r2 => (some [.v (.int .i64 r2.1), .v (.int .i64 r2.2), .v (.int .i64 0)])))) = Option.map l38 (s38 a0 a1 a2 a3 a4 a5) := by
    unfold s38
    exact (bind_app fun _ => (cond_app (Option.map l38) rfl (bind_app fun _ => rfl)))
  rw [e, h]; rfl
noncomputable def c38 : List A → ACall
  | [.rc [.v (.int .i8 a0), .v (.int .i8 a1), .fa 144 .u8 a2], .rc [.v (.int .i8 a3), .v (.int .i8 a4), .fa 144 .u8 a5]] => ⟨(Int × Int × Int), s38 a0 a1 a2 a3 a4 a5, fun r => .tup [.v (.int .i64 r.1), .v (.int .i64 r.2.1), .v (.int .i64 r.2.2)]⟩
  | _ => ACall.fail
theorem f38_sound : Sound Try.prog 38 c38 := by
  refine sound_good f38_ctx f38_LV 2 Try.func38 (c := f38_c) (by kernel_rfl) (rv := f38_rv) (by kernel_rfl) (by kernel_rfl) (by kernel_rfl) (by kernel_rfl) fun rs => ?_
  unfold c38
  split
  · rename_i a0 a1 a2 a3 a4 a5; intro v h; exact ⟨rfl, l38 v, rfl, (f38_top a0 a1 a2 a3 a4 a5 _).trans (s38_ok a0 a1 a2 a3 a4 a5 v h)⟩
  · intro v h; cases h

/-! ### function 10: loop.example/g01322/laws.FnExactAgreement -/
noncomputable def f10_c : Code := match Try.f10.body with | some c => c | none => .skip
noncomputable def f10_X : Ctx := ⟨TT, phiOf [(16, c16), (37, c37), (38, c38)], noPsi⟩
def f10_LV : List (Nat × Keep) := []
def f10_rv : List ResultVar := [.tmp 4]
noncomputable def f10_L (r : List A) : Nat → AS → Option (List A) := L f10_X (cnOf f10_LV) f10_c (K0 TT f10_rv) r
theorem f10_ctx : CtxOK Try.prog f10_X := ctx_of tab mix ⟨⟨Try.call16, f16_sound⟩, ⟨Try.call37, f37_sound⟩, ⟨Try.call38, f38_sound⟩, trivial⟩
noncomputable def s10 (a0 : Int) (a1 : Int) (a2 : (Nat → Int)) (a3 : Int) (a4 : Int) (a5 : (Nat → Int)) : Option Bool := (Option.bind (s37 (s16 a0 a1 a2).1 (s16 a0 a1 a2).2.1 (s16 a0 a1 a2).2.2 (s16 a3 a4 a5).1 (s16 a3 a4 a5).2.1 (s16 a3 a4 a5).2.2) fun r1 => (Option.bind (s38 (s16 a0 a1 a2).1 (s16 a0 a1 a2).2.1 (s16 a0 a1 a2).2.2 (s16 a3 a4 a5).1 (s16 a3 a4 a5).2.1 (s16 a3 a4 a5).2.2) fun r2 => (cond (r2.1 != r1.1) (some false) (cond (r2.2.1 != r1.2.1) (some false) (cond (r2.2.2 != r1.2.2) (some false) (some true))))))
theorem f10_top (a0 : Int) (a1 : Int) (a2 : (Nat → Int)) (a3 : Int) (a4 : Int) (a5 : (Nat → Int)) (r : List A) : ev f10_X (lpc (cnOf f10_LV) (f10_L r)) f10_c (K0 TT f10_rv) (enter [.rc [.v (.int .i8 a0), .v (.int .i8 a1), .fa 144 .u8 a2], .rc [.v (.int .i8 a3), .v (.int .i8 a4), .fa 144 .u8 a5]]) = (Option.bind (s37 (s16 a0 a1 a2).1 (s16 a0 a1 a2).2.1 (s16 a0 a1 a2).2.2 (s16 a3 a4 a5).1 (s16 a3 a4 a5).2.1 (s16 a3 a4 a5).2.2) fun r1 => (Option.bind (s38 (s16 a0 a1 a2).1 (s16 a0 a1 a2).2.1 (s16 a0 a1 a2).2.2 (s16 a3 a4 a5).1 (s16 a3 a4 a5).2.1 (s16 a3 a4 a5).2.2) fun r2 => (cond (r2.1 != r1.1) (some [.v (.bool false)]) (cond (r2.2.1 != r1.2.1) (some [.v (.bool false)]) (cond (r2.2.2 != r1.2.2) (some [.v (.bool false)]) (some [.v (.bool true)])))))) := by kernel_rfl
noncomputable def l10 (r : Bool) : List A := [.v (.bool r)]
theorem s10_ok (a0 : Int) (a1 : Int) (a2 : (Nat → Int)) (a3 : Int) (a4 : Int) (a5 : (Nat → Int)) (v : Bool) (h : s10 a0 a1 a2 a3 a4 a5 = some v) : (Option.bind (s37 (s16 a0 a1 a2).1 (s16 a0 a1 a2).2.1 (s16 a0 a1 a2).2.2 (s16 a3 a4 a5).1 (s16 a3 a4 a5).2.1 (s16 a3 a4 a5).2.2) fun r1 => (Option.bind (s38 (s16 a0 a1 a2).1 (s16 a0 a1 a2).2.1 (s16 a0 a1 a2).2.2 (s16 a3 a4 a5).1 (s16 a3 a4 a5).2.1 (s16 a3 a4 a5).2.2) fun r2 => (cond (r2.1 != r1.1) (some [.v (.bool false)]) (cond (r2.2.1 != r1.2.1) (some [.v (.bool false)]) (cond (r2.2.2 != r1.2.2) (some [.v (.bool false)]) (some [.v (.bool true)])))))) = some (l10 v) := by
  have e : (Option.bind (s37 (s16 a0 a1 a2).1 (s16 a0 a1 a2).2.1 (s16 a0 a1 a2).2.2 (s16 a3 a4 a5).1 (s16 a3 a4 a5).2.1 (s16 a3 a4 a5).2.2) fun r1 => (Option.bind (s38 (s16 a0 a1 a2).1 (s16 a0 a1 a2).2.1 (s16 a0 a1 a2).2.2 (s16 a3 a4 a5).1 (s16 a3 a4 a5).2.1 (s16 a3 a4 a5).2.2) fun r2 => (cond (r2.1 != r1.1) (some [.v (.bool false)]) (cond (r2.2.1 != r1.2.1) (some [.v (.bool false)]) (cond (r2.2.2 != r1.2.2) (some [.v (.bool false)]) (some [.v (.bool true)])))))) = Option.map l10 (s10 a0 a1 a2 a3 a4 a5) := by
    unfold s10
    exact (bind_app fun _ => (bind_app fun _ => (cond_app (Option.map l10) rfl (cond_app (Option.map l10) rfl (cond_app (Option.map l10) rfl rfl)))))
  rw [e, h]; rfl
noncomputable def c10 : List A → ACall
  | [.rc [.v (.int .i8 a0), .v (.int .i8 a1), .fa 144 .u8 a2], .rc [.v (.int .i8 a3), .v (.int .i8 a4), .fa 144 .u8 a5]] => ⟨Bool, s10 a0 a1 a2 a3 a4 a5, fun r => .one (.v (.bool r))⟩
  | _ => ACall.fail
theorem f10_sound : Sound Try.prog 10 c10 := by
  refine sound_good f10_ctx f10_LV 2 Try.func10 (c := f10_c) (by kernel_rfl) (rv := f10_rv) (by kernel_rfl) (by kernel_rfl) (by kernel_rfl) (by kernel_rfl) fun rs => ?_
  unfold c10
  split
  · rename_i a0 a1 a2 a3 a4 a5; intro v h; exact ⟨rfl, l10 v, rfl, (f10_top a0 a1 a2 a3 a4 a5 _).trans (s10_ok a0 a1 a2 a3 a4 a5 v h)⟩
  · intro v h; cases h

/-! ### function 75: loop.example/g01322/spec.l06Clashes -/
noncomputable def f75_c : Code := match Try.f75.body with | some c => c | none => .skip
noncomputable def f75_X : Ctx := ⟨TT, phiOf [(50, c50), (81, c81)], noPsi⟩
def f75_LV : List (Nat × Keep) := [(3, ([0, 1, 5, 6], [], []))]
def f75_rv : List ResultVar := [.tmp 4]
noncomputable def f75_L (r : List A) : Nat → AS → Option (List A) := L f75_X (cnOf f75_LV) f75_c (K0 TT f75_rv) r
theorem f75_ctx : CtxOK Try.prog f75_X := ctx_of tab mix ⟨⟨Try.call50, f50_sound⟩, ⟨Try.call81, f81_sound⟩, trivial⟩
noncomputable def f75_s3 (x0 : Int) (x1 : Int) (x2 : Int) (x3 : Int) (x4 : Int) (x5 : (Nat → Int)) : AS := ⟨[(0, .a (.ptr 0 [] (0))), (1, .a (.v (.int .i64 x0))), (5, .a (.v (.int .i64 x1))), (6, .a (.v (.int .i64 x2)))], [(0, some ⟨false, .box (.rc [.v (.int .i8 x3), .v (.int .i8 x4), .fa 144 .u8 x5])⟩)], 1⟩
noncomputable def l75 (r : Int) : List A := [.v (.int .i64 r)]
theorem f75_step3 (x0 : Int) (x1 : Int) (x2 : Int) (x3 : Int) (x4 : Int) (x5 : (Nat → Int)) (r : List A) (h : (cond (decide (x2 < 144)) (cond (!(s81 x3 x4 x5 x2)) (f75_L r 3 (f75_s3 x0 x1 (IntKind.wrap .i64 (x2 + 1)) x3 x4 x5)) (cond (decide ((s50 x3 x4 x5 x0 x2) > x2)) (cond (inB x2 144) (cond ((x5 (Int.toNat x2)) != 0) (cond (inB (s50 x3 x4 x5 x0 x2) 144) (cond ((x5 (Int.toNat (s50 x3 x4 x5 x0 x2))) != 0) (cond (inB x2 144) (cond (inB (s50 x3 x4 x5 x0 x2) 144) (cond ((x5 (Int.toNat x2)) != (x5 (Int.toNat (s50 x3 x4 x5 x0 x2)))) (f75_L r 3 (f75_s3 x0 (IntKind.wrap .i64 (x1 + 1)) (IntKind.wrap .i64 (x2 + 1)) x3 x4 x5)) (f75_L r 3 (f75_s3 x0 x1 (IntKind.wrap .i64 (x2 + 1)) x3 x4 x5))) none) none) (f75_L r 3 (f75_s3 x0 x1 (IntKind.wrap .i64 (x2 + 1)) x3 x4 x5))) none) (f75_L r 3 (f75_s3 x0 x1 (IntKind.wrap .i64 (x2 + 1)) x3 x4 x5))) none) (f75_L r 3 (f75_s3 x0 x1 (IntKind.wrap .i64 (x2 + 1)) x3 x4 x5)))) (some [.v (.int .i64 x1)])) = some r) : f75_L r 3 (f75_s3 x0 x1 x2 x3 x4 x5) = some r :=
  step_of' h (by kernel_rfl)
noncomputable def f75_n3 (x0 : Int) (x1 : Int) (x2 : Int) (x3 : Int) (x4 : Int) (x5 : (Nat → Int)) : Option ((Int × Int × Int × Int × Int × (Nat → Int)) ⊕ Int) := (cond (decide (x2 < 144)) (cond (!(s81 x3 x4 x5 x2)) (some (Sum.inl (x0, x1, (IntKind.wrap .i64 (x2 + 1)), x3, x4, x5))) (cond (decide ((s50 x3 x4 x5 x0 x2) > x2)) (cond (inB x2 144) (cond ((x5 (Int.toNat x2)) != 0) (cond (inB (s50 x3 x4 x5 x0 x2) 144) (cond ((x5 (Int.toNat (s50 x3 x4 x5 x0 x2))) != 0) (cond (inB x2 144) (cond (inB (s50 x3 x4 x5 x0 x2) 144) (cond ((x5 (Int.toNat x2)) != (x5 (Int.toNat (s50 x3 x4 x5 x0 x2)))) (some (Sum.inl (x0, (IntKind.wrap .i64 (x1 + 1)), (IntKind.wrap .i64 (x2 + 1)), x3, x4, x5))) (some (Sum.inl (x0, x1, (IntKind.wrap .i64 (x2 + 1)), x3, x4, x5)))) none) none) (some (Sum.inl (x0, x1, (IntKind.wrap .i64 (x2 + 1)), x3, x4, x5)))) none) (some (Sum.inl (x0, x1, (IntKind.wrap .i64 (x2 + 1)), x3, x4, x5)))) none) (some (Sum.inl (x0, x1, (IntKind.wrap .i64 (x2 + 1)), x3, x4, x5))))) (some (Sum.inr x1)))
noncomputable def f75_run3 (x : (Int × Int × Int × Int × Int × (Nat → Int))) : Option Int := iter (fun x => f75_n3 x.1 x.2.1 x.2.2.1 x.2.2.2.1 x.2.2.2.2.1 x.2.2.2.2.2) FU x
noncomputable def f75_G3 (r : List A) (x : (Int × Int × Int × Int × Int × (Nat → Int))) : Prop := f75_L r 3 (f75_s3 x.1 x.2.1 x.2.2.1 x.2.2.2.1 x.2.2.2.2.1 x.2.2.2.2.2) = some r
noncomputable def f75_S3 (r : List A) : Int → Prop := fun v => r = l75 v
theorem f75_go3 (r : List A) : ∀ x, sem (f75_S3 r) (f75_run3 x) → f75_G3 r x :=
  fun x => iter_sound (step := fun x => f75_n3 x.1 x.2.1 x.2.2.1 x.2.2.2.1 x.2.2.2.2.1 x.2.2.2.2.2) (fun x h => by
    unfold f75_n3 at h
    exact f75_step3 x.1 x.2.1 x.2.2.1 x.2.2.2.1 x.2.2.2.2.1 x.2.2.2.2.2 r ((sem_cond h (fun h => (sem_cond h (fun h => sem_got h fun q => q) (fun h => (sem_cond h (fun h => (sem_cond h (fun h => (sem_cond h (fun h => (sem_cond h (fun h => (sem_cond h (fun h => (sem_cond h (fun h => (sem_cond h (fun h => (sem_cond h (fun h => sem_got h fun q => q) (fun h => sem_got h fun q => q))) (fun h => sem_none h))) (fun h => sem_none h))) (fun h => sem_got h fun q => q))) (fun h => sem_none h))) (fun h => sem_got h fun q => q))) (fun h => sem_none h))) (fun h => sem_got h fun q => q))))) (fun h => sem_got h fun q => some_eq q)))) FU x
noncomputable def s75 (a0 : Int) (a1 : Int) (a2 : (Nat → Int)) (a3 : Int) : Option Int := (f75_run3 (a3, 0, 0, a0, a1, a2))
theorem f75_top (a0 : Int) (a1 : Int) (a2 : (Nat → Int)) (a3 : Int) (r : List A) : ev f75_X (lpc (cnOf f75_LV) (f75_L r)) f75_c (K0 TT f75_rv) (enter [.ref (.rc [.v (.int .i8 a0), .v (.int .i8 a1), .fa 144 .u8 a2]), .v (.int .i64 a3)]) = (f75_L r 3 (f75_s3 a3 0 0 a0 a1 a2)) := by kernel_rfl
theorem s75_ok (a0 : Int) (a1 : Int) (a2 : (Nat → Int)) (a3 : Int) (v : Int) (h : s75 a0 a1 a2 a3 = some v) : (f75_L (l75 v) 3 (f75_s3 a3 0 0 a0 a1 a2)) = some (l75 v) := by
  unfold s75 at h
  have go : ∀ r, sem (fun v => r = l75 v) ((f75_run3 (a3, 0, 0, a0, a1, a2))) → (f75_L r 3 (f75_s3 a3 0 0 a0 a1 a2)) = some r := fun r h => f75_go3 r _ h
  exact go (l75 v) ⟨v, h, rfl⟩
noncomputable def c75 : List A → ACall
  | [.ref (.rc [.v (.int .i8 a0), .v (.int .i8 a1), .fa 144 .u8 a2]), .v (.int .i64 a3)] => ⟨Int, s75 a0 a1 a2 a3, fun r => .one (.v (.int .i64 r))⟩
  | _ => ACall.fail
theorem f75_sound : Sound Try.prog 75 c75 := by
  refine sound_good f75_ctx f75_LV 2 Try.func75 (c := f75_c) (by kernel_rfl) (rv := f75_rv) (by kernel_rfl) (by kernel_rfl) (by kernel_rfl) (by kernel_rfl) fun rs => ?_
  unfold c75
  split
  · rename_i a0 a1 a2 a3; intro v h; exact ⟨rfl, l75 v, rfl, (f75_top a0 a1 a2 a3 _).trans (s75_ok a0 a1 a2 a3 v h)⟩
  · intro v h; cases h

/-! ### function 39: loop.example/g01322/spec.BestKind -/
noncomputable def f39_c : Code := match Try.f39.body with | some c => c | none => .skip
noncomputable def f39_X : Ctx := ⟨TT, phiOf [(47, c47), (75, c75)], noPsi⟩
def f39_LV : List (Nat × Keep) := [(6, ([1, 5, 6, 7], [], []))]
def f39_rv : List ResultVar := [.tmp 2, .tmp 3, .tmp 4]
noncomputable def f39_L (r : List A) : Nat → AS → Option (List A) := L f39_X (cnOf f39_LV) f39_c (K0 TT f39_rv) r
theorem f39_ctx : CtxOK Try.prog f39_X := ctx_of tab mix ⟨⟨Try.call47, f47_sound⟩, ⟨Try.call75, f75_sound⟩, trivial⟩
noncomputable def f39_s6 (x0 : Int) (x1 : Int) (x2 : Int) (x3 : Int) (x4 : Int) (x5 : (Nat → Int)) : AS := ⟨[(1, .a (.ptr 0 [] (0))), (5, .a (.v (.int .i64 x0))), (6, .a (.v (.int .i64 x1))), (7, .a (.v (.int .i64 x2)))], [(0, some ⟨true, .box (.rc [.v (.int .i8 x3), .v (.int .i8 x4), .fa 144 .u8 x5])⟩)], 1⟩
noncomputable def l39 (r : (Int × Int × Int)) : List A := [.v (.int .i64 r.1), .v (.int .i64 r.2.1), .v (.int .i64 r.2.2)]
theorem f39_step6 (x0 : Int) (x1 : Int) (x2 : Int) (x3 : Int) (x4 : Int) (x5 : (Nat → Int)) (r : List A) (h : (cond (decide (x2 ≤ 2)) (Option.bind (s75 x3 x4 x5 x2) fun r2 => (cond (decide (r2 < x1)) (f39_L r 6 (f39_s6 x2 r2 (IntKind.wrap .i64 (x2 + 1)) x3 x4 x5)) (f39_L r 6 (f39_s6 x0 x1 (IntKind.wrap .i64 (x2 + 1)) x3 x4 x5)))) (some [.v (.int .i64 x0), .v (.int .i64 x1), .v (.int .i64 0)])) = some r) : f39_L r 6 (f39_s6 x0 x1 x2 x3 x4 x5) = some r :=
  step_of' h (by kernel_rfl)
noncomputable def f39_n6 (x0 : Int) (x1 : Int) (x2 : Int) (x3 : Int) (x4 : Int) (x5 : (Nat → Int)) : Option ((Int × Int × Int × Int × Int × (Nat → Int)) ⊕ (Int × Int × Int)) := (cond (decide (x2 ≤ 2)) (Option.bind (s75 x3 x4 x5 x2) fun r2 => (cond (decide (r2 < x1)) (some (Sum.inl (x2, r2, (IntKind.wrap .i64 (x2 + 1)), x3, x4, x5))) (some (Sum.inl (x0, x1, (IntKind.wrap .i64 (x2 + 1)), x3, x4, x5))))) (some (Sum.inr (x0, x1, 0))))
noncomputable def f39_run6 (x : (Int × Int × Int × Int × Int × (Nat → Int))) : Option (Int × Int × Int) := iter (fun x => f39_n6 x.1 x.2.1 x.2.2.1 x.2.2.2.1 x.2.2.2.2.1 x.2.2.2.2.2) FU x
noncomputable def f39_G6 (r : List A) (x : (Int × Int × Int × Int × Int × (Nat → Int))) : Prop := f39_L r 6 (f39_s6 x.1 x.2.1 x.2.2.1 x.2.2.2.1 x.2.2.2.2.1 x.2.2.2.2.2) = some r
noncomputable def f39_S6 (r : List A) : (Int × Int × Int) → Prop := fun v => r = l39 v
theorem f39_go6 (r : List A) : ∀ x, sem (f39_S6 r) (f39_run6 x) → f39_G6 r x :=
  fun x => iter_sound (step := fun x => f39_n6 x.1 x.2.1 x.2.2.1 x.2.2.2.1 x.2.2.2.2.1 x.2.2.2.2.2) (fun x h => by
    unfold f39_n6 at h
    exact f39_step6 x.1 x.2.1 x.2.2.1 x.2.2.2.1 x.2.2.2.2.1 x.2.2.2.2.2 r ((sem_cond h (fun h => (sem_bind h fun r2 h => (sem_cond h (fun h => sem_got h fun q => q) (fun h => sem_got h fun q => q)))) (fun h => sem_got h fun q => some_eq q)))) FU x
noncomputable def s39 (a0 : Int) (a1 : Int) (a2 : (Nat → Int)) : Option (Int × Int × Int) := (cond (!(s47 a0 a1 a2)) (some (0, 0, 1)) (Option.bind (s75 a0 a1 a2 0) fun r1 => (f39_run6 (0, r1, 1, a0, a1, a2))))
theorem f39_top (a0 : Int) (a1 : Int) (a2 : (Nat → Int)) (r : List A) : ev f39_X (lpc (cnOf f39_LV) (f39_L r)) f39_c (K0 TT f39_rv) (enter [.rc [.v (.int .i8 a0), .v (.int .i8 a1), .fa 144 .u8 a2]]) = (cond (!(s47 a0 a1 a2)) (some [.v (.int .i64 0), .v (.int .i64 0), .v (.int .i64 1)]) (Option.bind (s75 a0 a1 a2 0) fun r1 => (f39_L r 6 (f39_s6 0 r1 1 a0 a1 a2)))) := by kernel_rfl
theorem s39_ok (a0 : Int) (a1 : Int) (a2 : (Nat → Int)) (v : (Int × Int × Int)) (h : s39 a0 a1 a2 = some v) : (cond (!(s47 a0 a1 a2)) (some [.v (.int .i64 0), .v (.int .i64 0), .v (.int .i64 1)]) (Option.bind (s75 a0 a1 a2 0) fun r1 => (f39_L (l39 v) 6 (f39_s6 0 r1 1 a0 a1 a2)))) = some (l39 v) := by
  unfold s39 at h
  have go : ∀ r, sem (fun v => r = l39 v) ((cond (!(s47 a0 a1 a2)) (some (0, 0, 1)) (Option.bind (s75 a0 a1 a2 0) fun r1 => (f39_run6 (0, r1, 1, a0, a1, a2))))) → (cond (!(s47 a0 a1 a2)) (some [.v (.int .i64 0), .v (.int .i64 0), .v (.int .i64 1)]) (Option.bind (s75 a0 a1 a2 0) fun r1 => (f39_L r 6 (f39_s6 0 r1 1 a0 a1 a2)))) = some r := fun r h => (sem_cond h (fun h => sem_got h fun q => some_eq q) (fun h => (sem_bind h fun r1 h => f39_go6 r _ h)))
  exact go (l39 v) ⟨v, h, rfl⟩
noncomputable def c39 : List A → ACall
  | [.rc [.v (.int .i8 a0), .v (.int .i8 a1), .fa 144 .u8 a2]] => ⟨(Int × Int × Int), s39 a0 a1 a2, fun r => .tup [.v (.int .i64 r.1), .v (.int .i64 r.2.1), .v (.int .i64 r.2.2)]⟩
  | _ => ACall.fail
theorem f39_sound : Sound Try.prog 39 c39 := by
  refine sound_good f39_ctx f39_LV 1 Try.func39 (c := f39_c) (by kernel_rfl) (rv := f39_rv) (by kernel_rfl) (by kernel_rfl) (by kernel_rfl) (by kernel_rfl) fun rs => ?_
  unfold c39
  split
  · rename_i a0 a1 a2; intro v h; exact ⟨rfl, l39 v, rfl, (f39_top a0 a1 a2 _).trans (s39_ok a0 a1 a2 v h)⟩
  · intro v h; cases h

/-! ### function 76: (loop.example/g01322/impl.Picture).clashesUnder -/
noncomputable def f76_c : Code := match Try.f76.body with | some c => c | none => .skip
noncomputable def f76_X : Ctx := ⟨TT, phiOf [(56, c56), (67, c67)], noPsi⟩
def f76_LV : List (Nat × Keep) := [(3, ([1, 2, 5, 10, 11, 12], [], []))]
def f76_rv : List ResultVar := [.tmp 4]
noncomputable def f76_L (r : List A) : Nat → AS → Option (List A) := L f76_X (cnOf f76_LV) f76_c (K0 TT f76_rv) r
theorem f76_ctx : CtxOK Try.prog f76_X := ctx_of tab mix ⟨⟨Try.call56, f56_sound⟩, ⟨Try.call67, f67_sound⟩, trivial⟩
noncomputable def f76_s3 (x0 : Int) (x1 : Int) (x2 : Int) (x3 : Int) (x4 : Int) (x5 : Int) (x6 : (Nat → Int)) (x7 : (List Int)) : AS := ⟨[(1, .a (.v (.int .i64 x0))), (2, .a (.ptr 0 [] (0))), (5, .a (.v (.int .i64 x1))), (10, .a (.sl 1)), (11, .a (.v (.int .i64 x2))), (12, .a (.v (.int .i64 x3)))], [(0, some ⟨true, .box (.rc [.v (.int .i8 x4), .v (.int .i8 x5), .fa 144 .u8 x6])⟩), (1, some ⟨true, .arr (.one (.i .i64)) x7⟩)], 2⟩
noncomputable def l76 (r : Int) : List A := [.v (.int .i64 r)]
theorem f76_step3 (x0 : Int) (x1 : Int) (x2 : Int) (x3 : Int) (x4 : Int) (x5 : Int) (x6 : (Nat → Int)) (x7 : (List Int)) (r : List A) (h : (cond (decide (x3 < x2)) (cond (inB x3 (List.length x7)) (cond (decide ((List.getD x7 (Int.toNat x3) 0) < (s56 x4 x5 x6 x0 (List.getD x7 (Int.toNat x3) 0)))) (cond (inB (List.getD x7 (Int.toNat x3) 0) 144) (cond ((x6 (Int.toNat (List.getD x7 (Int.toNat x3) 0))) != 0) (cond (inB (s56 x4 x5 x6 x0 (List.getD x7 (Int.toNat x3) 0)) 144) (cond ((x6 (Int.toNat (s56 x4 x5 x6 x0 (List.getD x7 (Int.toNat x3) 0)))) != 0) (cond (inB (List.getD x7 (Int.toNat x3) 0) 144) (cond (inB (s56 x4 x5 x6 x0 (List.getD x7 (Int.toNat x3) 0)) 144) (cond ((x6 (Int.toNat (List.getD x7 (Int.toNat x3) 0))) != (x6 (Int.toNat (s56 x4 x5 x6 x0 (List.getD x7 (Int.toNat x3) 0))))) (f76_L r 3 (f76_s3 x0 (IntKind.wrap .i64 (x1 + 1)) x2 (IntKind.wrap .i64 (x3 + 1)) x4 x5 x6 x7)) (f76_L r 3 (f76_s3 x0 x1 x2 (IntKind.wrap .i64 (x3 + 1)) x4 x5 x6 x7))) none) none) (f76_L r 3 (f76_s3 x0 x1 x2 (IntKind.wrap .i64 (x3 + 1)) x4 x5 x6 x7))) none) (f76_L r 3 (f76_s3 x0 x1 x2 (IntKind.wrap .i64 (x3 + 1)) x4 x5 x6 x7))) none) (f76_L r 3 (f76_s3 x0 x1 x2 (IntKind.wrap .i64 (x3 + 1)) x4 x5 x6 x7))) none) (some [.v (.int .i64 x1)])) = some r) : f76_L r 3 (f76_s3 x0 x1 x2 x3 x4 x5 x6 x7) = some r :=
  step_of' h (by kernel_rfl)
noncomputable def f76_n3 (x0 : Int) (x1 : Int) (x2 : Int) (x3 : Int) (x4 : Int) (x5 : Int) (x6 : (Nat → Int)) (x7 : (List Int)) : Option ((Int × Int × Int × Int × Int × Int × (Nat → Int) × (List Int)) ⊕ Int) := (cond (decide (x3 < x2)) (cond (inB x3 (List.length x7)) (cond (decide ((List.getD x7 (Int.toNat x3) 0) < (s56 x4 x5 x6 x0 (List.getD x7 (Int.toNat x3) 0)))) (cond (inB (List.getD x7 (Int.toNat x3) 0) 144) (cond ((x6 (Int.toNat (List.getD x7 (Int.toNat x3) 0))) != 0) (cond (inB (s56 x4 x5 x6 x0 (List.getD x7 (Int.toNat x3) 0)) 144) (cond ((x6 (Int.toNat (s56 x4 x5 x6 x0 (List.getD x7 (Int.toNat x3) 0)))) != 0) (cond (inB (List.getD x7 (Int.toNat x3) 0) 144) (cond (inB (s56 x4 x5 x6 x0 (List.getD x7 (Int.toNat x3) 0)) 144) (cond ((x6 (Int.toNat (List.getD x7 (Int.toNat x3) 0))) != (x6 (Int.toNat (s56 x4 x5 x6 x0 (List.getD x7 (Int.toNat x3) 0))))) (some (Sum.inl (x0, (IntKind.wrap .i64 (x1 + 1)), x2, (IntKind.wrap .i64 (x3 + 1)), x4, x5, x6, x7))) (some (Sum.inl (x0, x1, x2, (IntKind.wrap .i64 (x3 + 1)), x4, x5, x6, x7)))) none) none) (some (Sum.inl (x0, x1, x2, (IntKind.wrap .i64 (x3 + 1)), x4, x5, x6, x7)))) none) (some (Sum.inl (x0, x1, x2, (IntKind.wrap .i64 (x3 + 1)), x4, x5, x6, x7)))) none) (some (Sum.inl (x0, x1, x2, (IntKind.wrap .i64 (x3 + 1)), x4, x5, x6, x7)))) none) (some (Sum.inr x1)))
noncomputable def f76_run3 (x : (Int × Int × Int × Int × Int × Int × (Nat → Int) × (List Int))) : Option Int := iter (fun x => f76_n3 x.1 x.2.1 x.2.2.1 x.2.2.2.1 x.2.2.2.2.1 x.2.2.2.2.2.1 x.2.2.2.2.2.2.1 x.2.2.2.2.2.2.2) FU x
noncomputable def f76_G3 (r : List A) (x : (Int × Int × Int × Int × Int × Int × (Nat → Int) × (List Int))) : Prop := f76_L r 3 (f76_s3 x.1 x.2.1 x.2.2.1 x.2.2.2.1 x.2.2.2.2.1 x.2.2.2.2.2.1 x.2.2.2.2.2.2.1 x.2.2.2.2.2.2.2) = some r
noncomputable def f76_S3 (r : List A) : Int → Prop := fun v => r = l76 v
theorem f76_go3 (r : List A) : ∀ x, sem (f76_S3 r) (f76_run3 x) → f76_G3 r x :=
  fun x => iter_sound (step := fun x => f76_n3 x.1 x.2.1 x.2.2.1 x.2.2.2.1 x.2.2.2.2.1 x.2.2.2.2.2.1 x.2.2.2.2.2.2.1 x.2.2.2.2.2.2.2) (fun x h => by
    unfold f76_n3 at h
    exact f76_step3 x.1 x.2.1 x.2.2.1 x.2.2.2.1 x.2.2.2.2.1 x.2.2.2.2.2.1 x.2.2.2.2.2.2.1 x.2.2.2.2.2.2.2 r ((sem_cond h (fun h => (sem_cond h (fun h => (sem_cond h (fun h => (sem_cond h (fun h => (sem_cond h (fun h => (sem_cond h (fun h => (sem_cond h (fun h => (sem_cond h (fun h => (sem_cond h (fun h => (sem_cond h (fun h => sem_got h fun q => q) (fun h => sem_got h fun q => q))) (fun h => sem_none h))) (fun h => sem_none h))) (fun h => sem_got h fun q => q))) (fun h => sem_none h))) (fun h => sem_got h fun q => q))) (fun h => sem_none h))) (fun h => sem_got h fun q => q))) (fun h => sem_none h))) (fun h => sem_got h fun q => some_eq q)))) FU x
noncomputable def s76 (a0 : Int) (a1 : Int) (a2 : (Nat → Int)) (a3 : Int) : Option Int := (Option.bind (s67 a0 a1 a2) fun r1 => (f76_run3 (a3, 0, ((List.length r1 : Nat) : Int), 0, a0, a1, a2, r1)))
theorem f76_top (a0 : Int) (a1 : Int) (a2 : (Nat → Int)) (a3 : Int) (r : List A) : ev f76_X (lpc (cnOf f76_LV) (f76_L r)) f76_c (K0 TT f76_rv) (enter [.rc [.v (.int .i8 a0), .v (.int .i8 a1), .fa 144 .u8 a2], .v (.int .i64 a3)]) = (Option.bind (s67 a0 a1 a2) fun r1 => (f76_L r 3 (f76_s3 a3 0 ((List.length r1 : Nat) : Int) 0 a0 a1 a2 r1))) := by kernel_rfl
theorem s76_ok (a0 : Int) (a1 : Int) (a2 : (Nat → Int)) (a3 : Int) (v : Int) (h : s76 a0 a1 a2 a3 = some v) : (Option.bind (s67 a0 a1 a2) fun r1 => (f76_L (l76 v) 3 (f76_s3 a3 0 ((List.length r1 : Nat) : Int) 0 a0 a1 a2 r1))) = some (l76 v) := by
  unfold s76 at h
  have go : ∀ r, sem (fun v => r = l76 v) ((Option.bind (s67 a0 a1 a2) fun r1 => (f76_run3 (a3, 0, ((List.length r1 : Nat) : Int), 0, a0, a1, a2, r1)))) → (Option.bind (s67 a0 a1 a2) fun r1 => (f76_L r 3 (f76_s3 a3 0 ((List.length r1 : Nat) : Int) 0 a0 a1 a2 r1))) = some r := fun r h => (sem_bind h fun r1 h => f76_go3 r _ h)
  exact go (l76 v) ⟨v, h, rfl⟩
noncomputable def c76 : List A → ACall
  | [.rc [.v (.int .i8 a0), .v (.int .i8 a1), .fa 144 .u8 a2], .v (.int .i64 a3)] => ⟨Int, s76 a0 a1 a2 a3, fun r => .one (.v (.int .i64 r))⟩
  | _ => ACall.fail
theorem f76_sound : Sound Try.prog 76 c76 := by
  refine sound_good f76_ctx f76_LV 2 Try.func76 (c := f76_c) (by kernel_rfl) (rv := f76_rv) (by kernel_rfl) (by kernel_rfl) (by kernel_rfl) (by kernel_rfl) fun rs => ?_
  unfold c76
  split
  · rename_i a0 a1 a2 a3; intro v h; exact ⟨rfl, l76 v, rfl, (f76_top a0 a1 a2 a3 _).trans (s76_ok a0 a1 a2 a3 v h)⟩
  · intro v h; cases h

/-! ### function 40: loop.example/g01322/impl.BestKind -/
noncomputable def f40_c : Code := match Try.f40.body with | some c => c | none => .skip
noncomputable def f40_X : Ctx := ⟨TT, phiOf [(53, c53), (76, c76)], noPsi⟩
def f40_LV : List (Nat × Keep) := [(5, ([1, 5, 6, 7], [], []))]
def f40_rv : List ResultVar := [.tmp 2, .tmp 3, .tmp 4]
noncomputable def f40_L (r : List A) : Nat → AS → Option (List A) := L f40_X (cnOf f40_LV) f40_c (K0 TT f40_rv) r
theorem f40_ctx : CtxOK Try.prog f40_X := ctx_of tab mix ⟨⟨Try.call53, f53_sound⟩, ⟨Try.call76, f76_sound⟩, trivial⟩
noncomputable def f40_s5 (x0 : Int) (x1 : Int) (x2 : Int) (x3 : Int) (x4 : Int) (x5 : (Nat → Int)) : AS := ⟨[(1, .a (.ptr 0 [] (0))), (5, .a (.v (.int .i64 x0))), (6, .a (.v (.int .i64 x1))), (7, .a (.v (.int .i64 x2)))], [(0, some ⟨true, .box (.rc [.v (.int .i8 x3), .v (.int .i8 x4), .fa 144 .u8 x5])⟩)], 1⟩
noncomputable def l40 (r : (Int × Int × Int)) : List A := [.v (.int .i64 r.1), .v (.int .i64 r.2.1), .v (.int .i64 r.2.2)]
theorem f40_step5 (x0 : Int) (x1 : Int) (x2 : Int) (x3 : Int) (x4 : Int) (x5 : (Nat → Int)) (r : List A) (h : (cond (decide (x2 ≤ 2)) (Option.bind (s76 x3 x4 x5 x2) fun r2 => (cond (decide (r2 < x1)) (f40_L r 5 (f40_s5 x2 r2 (IntKind.wrap .i64 (x2 + 1)) x3 x4 x5)) (f40_L r 5 (f40_s5 x0 x1 (IntKind.wrap .i64 (x2 + 1)) x3 x4 x5)))) (some [.v (.int .i64 x0), .v (.int .i64 x1), .v (.int .i64 0)])) = some r) : f40_L r 5 (f40_s5 x0 x1 x2 x3 x4 x5) = some r :=
  step_of' h (by kernel_rfl)
noncomputable def f40_n5 (x0 : Int) (x1 : Int) (x2 : Int) (x3 : Int) (x4 : Int) (x5 : (Nat → Int)) : Option ((Int × Int × Int × Int × Int × (Nat → Int)) ⊕ (Int × Int × Int)) := (cond (decide (x2 ≤ 2)) (Option.bind (s76 x3 x4 x5 x2) fun r2 => (cond (decide (r2 < x1)) (some (Sum.inl (x2, r2, (IntKind.wrap .i64 (x2 + 1)), x3, x4, x5))) (some (Sum.inl (x0, x1, (IntKind.wrap .i64 (x2 + 1)), x3, x4, x5))))) (some (Sum.inr (x0, x1, 0))))
noncomputable def f40_run5 (x : (Int × Int × Int × Int × Int × (Nat → Int))) : Option (Int × Int × Int) := iter (fun x => f40_n5 x.1 x.2.1 x.2.2.1 x.2.2.2.1 x.2.2.2.2.1 x.2.2.2.2.2) FU x
noncomputable def f40_G5 (r : List A) (x : (Int × Int × Int × Int × Int × (Nat → Int))) : Prop := f40_L r 5 (f40_s5 x.1 x.2.1 x.2.2.1 x.2.2.2.1 x.2.2.2.2.1 x.2.2.2.2.2) = some r
noncomputable def f40_S5 (r : List A) : (Int × Int × Int) → Prop := fun v => r = l40 v
theorem f40_go5 (r : List A) : ∀ x, sem (f40_S5 r) (f40_run5 x) → f40_G5 r x :=
  fun x => iter_sound (step := fun x => f40_n5 x.1 x.2.1 x.2.2.1 x.2.2.2.1 x.2.2.2.2.1 x.2.2.2.2.2) (fun x h => by
    unfold f40_n5 at h
    exact f40_step5 x.1 x.2.1 x.2.2.1 x.2.2.2.1 x.2.2.2.2.1 x.2.2.2.2.2 r ((sem_cond h (fun h => (sem_bind h fun r2 h => (sem_cond h (fun h => sem_got h fun q => q) (fun h => sem_got h fun q => q)))) (fun h => sem_got h fun q => some_eq q)))) FU x
noncomputable def s40 (a0 : Int) (a1 : Int) (a2 : (Nat → Int)) : Option (Int × Int × Int) := (cond (!(s53 a0 a1 a2)) (some (0, 0, 1)) (Option.bind (s76 a0 a1 a2 0) fun r1 => (f40_run5 (0, r1, 1, a0, a1, a2))))
theorem f40_top (a0 : Int) (a1 : Int) (a2 : (Nat → Int)) (r : List A) : ev f40_X (lpc (cnOf f40_LV) (f40_L r)) f40_c (K0 TT f40_rv) (enter [.rc [.v (.int .i8 a0), .v (.int .i8 a1), .fa 144 .u8 a2]]) = (cond (!(s53 a0 a1 a2)) (some [.v (.int .i64 0), .v (.int .i64 0), .v (.int .i64 1)]) (Option.bind (s76 a0 a1 a2 0) fun r1 => (f40_L r 5 (f40_s5 0 r1 1 a0 a1 a2)))) := by kernel_rfl
theorem s40_ok (a0 : Int) (a1 : Int) (a2 : (Nat → Int)) (v : (Int × Int × Int)) (h : s40 a0 a1 a2 = some v) : (cond (!(s53 a0 a1 a2)) (some [.v (.int .i64 0), .v (.int .i64 0), .v (.int .i64 1)]) (Option.bind (s76 a0 a1 a2 0) fun r1 => (f40_L (l40 v) 5 (f40_s5 0 r1 1 a0 a1 a2)))) = some (l40 v) := by
  unfold s40 at h
  have go : ∀ r, sem (fun v => r = l40 v) ((cond (!(s53 a0 a1 a2)) (some (0, 0, 1)) (Option.bind (s76 a0 a1 a2 0) fun r1 => (f40_run5 (0, r1, 1, a0, a1, a2))))) → (cond (!(s53 a0 a1 a2)) (some [.v (.int .i64 0), .v (.int .i64 0), .v (.int .i64 1)]) (Option.bind (s76 a0 a1 a2 0) fun r1 => (f40_L r 5 (f40_s5 0 r1 1 a0 a1 a2)))) = some r := fun r h => (sem_cond h (fun h => sem_got h fun q => some_eq q) (fun h => (sem_bind h fun r1 h => f40_go5 r _ h)))
  exact go (l40 v) ⟨v, h, rfl⟩
noncomputable def c40 : List A → ACall
  | [.rc [.v (.int .i8 a0), .v (.int .i8 a1), .fa 144 .u8 a2]] => ⟨(Int × Int × Int), s40 a0 a1 a2, fun r => .tup [.v (.int .i64 r.1), .v (.int .i64 r.2.1), .v (.int .i64 r.2.2)]⟩
  | _ => ACall.fail
theorem f40_sound : Sound Try.prog 40 c40 := by
  refine sound_good f40_ctx f40_LV 1 Try.func40 (c := f40_c) (by kernel_rfl) (rv := f40_rv) (by kernel_rfl) (by kernel_rfl) (by kernel_rfl) (by kernel_rfl) fun rs => ?_
  unfold c40
  split
  · rename_i a0 a1 a2; intro v h; exact ⟨rfl, l40 v, rfl, (f40_top a0 a1 a2 _).trans (s40_ok a0 a1 a2 v h)⟩
  · intro v h; cases h

/-! ### function 11: loop.example/g01322/laws.FnExactBestKind -/
noncomputable def f11_c : Code := match Try.f11.body with | some c => c | none => .skip
noncomputable def f11_X : Ctx := ⟨TT, phiOf [(16, c16), (39, c39), (40, c40)], noPsi⟩
def f11_LV : List (Nat × Keep) := []
def f11_rv : List ResultVar := [.tmp 2]
noncomputable def f11_L (r : List A) : Nat → AS → Option (List A) := L f11_X (cnOf f11_LV) f11_c (K0 TT f11_rv) r
theorem f11_ctx : CtxOK Try.prog f11_X := ctx_of tab mix ⟨⟨Try.call16, f16_sound⟩, ⟨Try.call39, f39_sound⟩, ⟨Try.call40, f40_sound⟩, trivial⟩
noncomputable def s11 (a0 : Int) (a1 : Int) (a2 : (Nat → Int)) : Option Bool := (Option.bind (s39 (s16 a0 a1 a2).1 (s16 a0 a1 a2).2.1 (s16 a0 a1 a2).2.2) fun r1 => (Option.bind (s40 (s16 a0 a1 a2).1 (s16 a0 a1 a2).2.1 (s16 a0 a1 a2).2.2) fun r2 => (cond (r2.1 != r1.1) (some false) (cond (r2.2.1 != r1.2.1) (some false) (cond (r2.2.2 != r1.2.2) (some false) (some true))))))
theorem f11_top (a0 : Int) (a1 : Int) (a2 : (Nat → Int)) (r : List A) : ev f11_X (lpc (cnOf f11_LV) (f11_L r)) f11_c (K0 TT f11_rv) (enter [.rc [.v (.int .i8 a0), .v (.int .i8 a1), .fa 144 .u8 a2]]) = (Option.bind (s39 (s16 a0 a1 a2).1 (s16 a0 a1 a2).2.1 (s16 a0 a1 a2).2.2) fun r1 => (Option.bind (s40 (s16 a0 a1 a2).1 (s16 a0 a1 a2).2.1 (s16 a0 a1 a2).2.2) fun r2 => (cond (r2.1 != r1.1) (some [.v (.bool false)]) (cond (r2.2.1 != r1.2.1) (some [.v (.bool false)]) (cond (r2.2.2 != r1.2.2) (some [.v (.bool false)]) (some [.v (.bool true)])))))) := by kernel_rfl
noncomputable def l11 (r : Bool) : List A := [.v (.bool r)]
theorem s11_ok (a0 : Int) (a1 : Int) (a2 : (Nat → Int)) (v : Bool) (h : s11 a0 a1 a2 = some v) : (Option.bind (s39 (s16 a0 a1 a2).1 (s16 a0 a1 a2).2.1 (s16 a0 a1 a2).2.2) fun r1 => (Option.bind (s40 (s16 a0 a1 a2).1 (s16 a0 a1 a2).2.1 (s16 a0 a1 a2).2.2) fun r2 => (cond (r2.1 != r1.1) (some [.v (.bool false)]) (cond (r2.2.1 != r1.2.1) (some [.v (.bool false)]) (cond (r2.2.2 != r1.2.2) (some [.v (.bool false)]) (some [.v (.bool true)])))))) = some (l11 v) := by
  have e : (Option.bind (s39 (s16 a0 a1 a2).1 (s16 a0 a1 a2).2.1 (s16 a0 a1 a2).2.2) fun r1 => (Option.bind (s40 (s16 a0 a1 a2).1 (s16 a0 a1 a2).2.1 (s16 a0 a1 a2).2.2) fun r2 => (cond (r2.1 != r1.1) (some [.v (.bool false)]) (cond (r2.2.1 != r1.2.1) (some [.v (.bool false)]) (cond (r2.2.2 != r1.2.2) (some [.v (.bool false)]) (some [.v (.bool true)])))))) = Option.map l11 (s11 a0 a1 a2) := by
    unfold s11
    exact (bind_app fun _ => (bind_app fun _ => (cond_app (Option.map l11) rfl (cond_app (Option.map l11) rfl (cond_app (Option.map l11) rfl rfl)))))
  rw [e, h]; rfl
noncomputable def c11 : List A → ACall
  | [.rc [.v (.int .i8 a0), .v (.int .i8 a1), .fa 144 .u8 a2]] => ⟨Bool, s11 a0 a1 a2, fun r => .one (.v (.bool r))⟩
  | _ => ACall.fail
theorem f11_sound : Sound Try.prog 11 c11 := by
  refine sound_good f11_ctx f11_LV 1 Try.func11 (c := f11_c) (by kernel_rfl) (rv := f11_rv) (by kernel_rfl) (by kernel_rfl) (by kernel_rfl) (by kernel_rfl) fun rs => ?_
  unfold c11
  split
  · rename_i a0 a1 a2; intro v h; exact ⟨rfl, l11 v, rfl, (f11_top a0 a1 a2 _).trans (s11_ok a0 a1 a2 v h)⟩
  · intro v h; cases h

/-! ### function 41: loop.example/g01322/spec.ClashesUnder -/
noncomputable def f41_c : Code := match Try.f41.body with | some c => c | none => .skip
noncomputable def f41_X : Ctx := ⟨TT, phiOf [(47, c47), (48, c48), (75, c75)], noPsi⟩
def f41_LV : List (Nat × Keep) := []
def f41_rv : List ResultVar := [.tmp 4, .tmp 5]
noncomputable def f41_L (r : List A) : Nat → AS → Option (List A) := L f41_X (cnOf f41_LV) f41_c (K0 TT f41_rv) r
theorem f41_ctx : CtxOK Try.prog f41_X := ctx_of tab mix ⟨⟨Try.call47, f47_sound⟩, ⟨Try.call48, f48_sound⟩, ⟨Try.call75, f75_sound⟩, trivial⟩
noncomputable def s41 (a0 : Int) (a1 : Int) (a2 : (Nat → Int)) (a3 : Int) : Option (Int × Int) := (cond (!(s47 a0 a1 a2)) (some (0, 1)) (cond (!(s48 a3)) (some (0, 2)) (Option.bind (s75 a0 a1 a2 a3) fun r1 => (some (r1, 0)))))
theorem f41_top (a0 : Int) (a1 : Int) (a2 : (Nat → Int)) (a3 : Int) (r : List A) : ev f41_X (lpc (cnOf f41_LV) (f41_L r)) f41_c (K0 TT f41_rv) (enter [.rc [.v (.int .i8 a0), .v (.int .i8 a1), .fa 144 .u8 a2], .v (.int .i64 a3)]) = (cond (!(s47 a0 a1 a2)) (some [.v (.int .i64 0), .v (.int .i64 1)]) (cond (!(s48 a3)) (some [.v (.int .i64 0), .v (.int .i64 2)]) (Option.bind (s75 a0 a1 a2 a3) fun r1 => (some [.v (.int .i64 r1), .v (.int .i64 0)])))) := by kernel_rfl
noncomputable def l41 (r : (Int × Int)) : List A := [.v (.int .i64 r.1), .v (.int .i64 r.2)]
theorem s41_ok (a0 : Int) (a1 : Int) (a2 : (Nat → Int)) (a3 : Int) (v : (Int × Int)) (h : s41 a0 a1 a2 a3 = some v) : (cond (!(s47 a0 a1 a2)) (some [.v (.int .i64 0), .v (.int .i64 1)]) (cond (!(s48 a3)) (some [.v (.int .i64 0), .v (.int .i64 2)]) (Option.bind (s75 a0 a1 a2 a3) fun r1 => (some [.v (.int .i64 r1), .v (.int .i64 0)])))) = some (l41 v) := by
  have e : (cond (!(s47 a0 a1 a2)) (some [.v (.int .i64 0), .v (.int .i64 1)]) (cond (!(s48 a3)) (some [.v (.int .i64 0), .v (.int .i64 2)]) (Option.bind (s75 a0 a1 a2 a3) fun r1 => (some [.v (.int .i64 r1), .v (.int .i64 0)])))) = Option.map l41 (s41 a0 a1 a2 a3) := by
    unfold s41
    exact (cond_app (Option.map l41) rfl (cond_app (Option.map l41) rfl (bind_app fun _ => rfl)))
  rw [e, h]; rfl
noncomputable def c41 : List A → ACall
  | [.rc [.v (.int .i8 a0), .v (.int .i8 a1), .fa 144 .u8 a2], .v (.int .i64 a3)] => ⟨(Int × Int), s41 a0 a1 a2 a3, fun r => .tup [.v (.int .i64 r.1), .v (.int .i64 r.2)]⟩
  | _ => ACall.fail
theorem f41_sound : Sound Try.prog 41 c41 := by
  refine sound_good f41_ctx f41_LV 2 Try.func41 (c := f41_c) (by kernel_rfl) (rv := f41_rv) (by kernel_rfl) (by kernel_rfl) (by kernel_rfl) (by kernel_rfl) fun rs => ?_
  unfold c41
  split
  · rename_i a0 a1 a2 a3; intro v h; exact ⟨rfl, l41 v, rfl, (f41_top a0 a1 a2 a3 _).trans (s41_ok a0 a1 a2 a3 v h)⟩
  · intro v h; cases h

/-! ### function 42: loop.example/g01322/impl.ClashesUnder -/
noncomputable def f42_c : Code := match Try.f42.body with | some c => c | none => .skip
noncomputable def f42_X : Ctx := ⟨TT, phiOf [(52, c52), (53, c53), (54, c54), (76, c76)], noPsi⟩
def f42_LV : List (Nat × Keep) := []
def f42_rv : List ResultVar := [.tmp 4, .tmp 5]
noncomputable def f42_L (r : List A) : Nat → AS → Option (List A) := L f42_X (cnOf f42_LV) f42_c (K0 TT f42_rv) r
theorem f42_ctx : CtxOK Try.prog f42_X := ctx_of tab mix ⟨⟨Try.call52, f52_sound⟩, ⟨Try.call53, f53_sound⟩, ⟨Try.call54, f54_sound⟩, ⟨Try.call76, f76_sound⟩, trivial⟩
noncomputable def s42 (a0 : Int) (a1 : Int) (a2 : (Nat → Int)) (a3 : Int) : Option (Int × Int) := (cond ((s52 (s53 a0 a1 a2) (s54 a3)) != 0) (some (0, (s52 (s53 a0 a1 a2) (s54 a3)))) (Option.bind (s76 a0 a1 a2 a3) fun r1 => (some (r1, 0))))
theorem f42_top (a0 : Int) (a1 : Int) (a2 : (Nat → Int)) (a3 : Int) (r : List A) : ev f42_X (lpc (cnOf f42_LV) (f42_L r)) f42_c (K0 TT f42_rv) (enter [.rc [.v (.int .i8 a0), .v (.int .i8 a1), .fa 144 .u8 a2], .v (.int .i64 a3)]) = (cond ((s52 (s53 a0 a1 a2) (s54 a3)) != 0) (some [.v (.int .i64 0), .v (.int .i64 (s52 (s53 a0 a1 a2) (s54 a3)))]) (Option.bind (s76 a0 a1 a2 a3) fun r1 => (some [.v (.int .i64 r1), .v (.int .i64 0)]))) := by kernel_rfl
noncomputable def l42 (r : (Int × Int)) : List A := [.v (.int .i64 r.1), .v (.int .i64 r.2)]
theorem s42_ok (a0 : Int) (a1 : Int) (a2 : (Nat → Int)) (a3 : Int) (v : (Int × Int)) (h : s42 a0 a1 a2 a3 = some v) : (cond ((s52 (s53 a0 a1 a2) (s54 a3)) != 0) (some [.v (.int .i64 0), .v (.int .i64 (s52 (s53 a0 a1 a2) (s54 a3)))]) (Option.bind (s76 a0 a1 a2 a3) fun r1 => (some [.v (.int .i64 r1), .v (.int .i64 0)]))) = some (l42 v) := by
  have e : (cond ((s52 (s53 a0 a1 a2) (s54 a3)) != 0) (some [.v (.int .i64 0), .v (.int .i64 (s52 (s53 a0 a1 a2) (s54 a3)))]) (Option.bind (s76 a0 a1 a2 a3) fun r1 => (some [.v (.int .i64 r1), .v (.int .i64 0)]))) = Option.map l42 (s42 a0 a1 a2 a3) := by
    unfold s42
    exact (cond_app (Option.map l42) rfl (bind_app fun _ => rfl))
  rw [e, h]; rfl
noncomputable def c42 : List A → ACall
  | [.rc [.v (.int .i8 a0), .v (.int .i8 a1), .fa 144 .u8 a2], .v (.int .i64 a3)] => ⟨(Int × Int), s42 a0 a1 a2 a3, fun r => .tup [.v (.int .i64 r.1), .v (.int .i64 r.2)]⟩
  | _ => ACall.fail
theorem f42_sound : Sound Try.prog 42 c42 := by
  refine sound_good f42_ctx f42_LV 2 Try.func42 (c := f42_c) (by kernel_rfl) (rv := f42_rv) (by kernel_rfl) (by kernel_rfl) (by kernel_rfl) (by kernel_rfl) fun rs => ?_
  unfold c42
  split
  · rename_i a0 a1 a2 a3; intro v h; exact ⟨rfl, l42 v, rfl, (f42_top a0 a1 a2 a3 _).trans (s42_ok a0 a1 a2 a3 v h)⟩
  · intro v h; cases h

/-! ### function 12: loop.example/g01322/laws.FnExactClashesUnder -/
noncomputable def f12_c : Code := match Try.f12.body with | some c => c | none => .skip
noncomputable def f12_X : Ctx := ⟨TT, phiOf [(16, c16), (41, c41), (42, c42)], noPsi⟩
def f12_LV : List (Nat × Keep) := []
def f12_rv : List ResultVar := [.tmp 4]
noncomputable def f12_L (r : List A) : Nat → AS → Option (List A) := L f12_X (cnOf f12_LV) f12_c (K0 TT f12_rv) r
theorem f12_ctx : CtxOK Try.prog f12_X := ctx_of tab mix ⟨⟨Try.call16, f16_sound⟩, ⟨Try.call41, f41_sound⟩, ⟨Try.call42, f42_sound⟩, trivial⟩
noncomputable def s12 (a0 : Int) (a1 : Int) (a2 : (Nat → Int)) (a3 : Int) : Option Bool := (Option.bind (s41 (s16 a0 a1 a2).1 (s16 a0 a1 a2).2.1 (s16 a0 a1 a2).2.2 a3) fun r1 => (Option.bind (s42 (s16 a0 a1 a2).1 (s16 a0 a1 a2).2.1 (s16 a0 a1 a2).2.2 a3) fun r2 => (cond (r2.1 != r1.1) (some false) (cond (r2.2 != r1.2) (some false) (some true)))))
theorem f12_top (a0 : Int) (a1 : Int) (a2 : (Nat → Int)) (a3 : Int) (r : List A) : ev f12_X (lpc (cnOf f12_LV) (f12_L r)) f12_c (K0 TT f12_rv) (enter [.rc [.v (.int .i8 a0), .v (.int .i8 a1), .fa 144 .u8 a2], .v (.int .i64 a3)]) = (Option.bind (s41 (s16 a0 a1 a2).1 (s16 a0 a1 a2).2.1 (s16 a0 a1 a2).2.2 a3) fun r1 => (Option.bind (s42 (s16 a0 a1 a2).1 (s16 a0 a1 a2).2.1 (s16 a0 a1 a2).2.2 a3) fun r2 => (cond (r2.1 != r1.1) (some [.v (.bool false)]) (cond (r2.2 != r1.2) (some [.v (.bool false)]) (some [.v (.bool true)]))))) := by kernel_rfl
noncomputable def l12 (r : Bool) : List A := [.v (.bool r)]
theorem s12_ok (a0 : Int) (a1 : Int) (a2 : (Nat → Int)) (a3 : Int) (v : Bool) (h : s12 a0 a1 a2 a3 = some v) : (Option.bind (s41 (s16 a0 a1 a2).1 (s16 a0 a1 a2).2.1 (s16 a0 a1 a2).2.2 a3) fun r1 => (Option.bind (s42 (s16 a0 a1 a2).1 (s16 a0 a1 a2).2.1 (s16 a0 a1 a2).2.2 a3) fun r2 => (cond (r2.1 != r1.1) (some [.v (.bool false)]) (cond (r2.2 != r1.2) (some [.v (.bool false)]) (some [.v (.bool true)]))))) = some (l12 v) := by
  have e : (Option.bind (s41 (s16 a0 a1 a2).1 (s16 a0 a1 a2).2.1 (s16 a0 a1 a2).2.2 a3) fun r1 => (Option.bind (s42 (s16 a0 a1 a2).1 (s16 a0 a1 a2).2.1 (s16 a0 a1 a2).2.2 a3) fun r2 => (cond (r2.1 != r1.1) (some [.v (.bool false)]) (cond (r2.2 != r1.2) (some [.v (.bool false)]) (some [.v (.bool true)]))))) = Option.map l12 (s12 a0 a1 a2 a3) := by
    unfold s12
    exact (bind_app fun _ => (bind_app fun _ => (cond_app (Option.map l12) rfl (cond_app (Option.map l12) rfl rfl))))
  rw [e, h]; rfl
noncomputable def c12 : List A → ACall
  | [.rc [.v (.int .i8 a0), .v (.int .i8 a1), .fa 144 .u8 a2], .v (.int .i64 a3)] => ⟨Bool, s12 a0 a1 a2 a3, fun r => .one (.v (.bool r))⟩
  | _ => ACall.fail
theorem f12_sound : Sound Try.prog 12 c12 := by
  refine sound_good f12_ctx f12_LV 2 Try.func12 (c := f12_c) (by kernel_rfl) (rv := f12_rv) (by kernel_rfl) (by kernel_rfl) (by kernel_rfl) (by kernel_rfl) fun rs => ?_
  unfold c12
  split
  · rename_i a0 a1 a2 a3; intro v h; exact ⟨rfl, l12 v, rfl, (f12_top a0 a1 a2 a3 _).trans (s12_ok a0 a1 a2 a3 v h)⟩
  · intro v h; cases h

/-! ### function 77: loop.example/g01322/spec.l06Periods -/
noncomputable def f77_c : Code := match Try.f77.body with | some c => c | none => .skip
noncomputable def f77_X : Ctx := ⟨TT, phiOf [(47, c47), (57, c57)], noPsi⟩
def f77_LV : List (Nat × Keep) := []
def f77_rv : List ResultVar := [.tmp 6]
noncomputable def f77_L (r : List A) : Nat → AS → Option (List A) := L f77_X (cnOf f77_LV) f77_c (K0 TT f77_rv) r
theorem f77_ctx : CtxOK Try.prog f77_X := ctx_of tab mix ⟨⟨Try.call47, f47_sound⟩, ⟨Try.call57, f57_sound⟩, trivial⟩
noncomputable def s77 (a0 : Int) (a1 : Int) (a2 : (Nat → Int)) (a3 : Int) (a4 : Int) : Int := (cond (!(s47 a0 a1 a2)) 1 (cond (!(s57 a3 1 (IntKind.wrap .i64 a0))) 2 (cond (!(s57 a4 1 (IntKind.wrap .i64 a1))) 2 0)))
theorem f77_top (a0 : Int) (a1 : Int) (a2 : (Nat → Int)) (a3 : Int) (a4 : Int) (r : List A) : ev f77_X (lpc (cnOf f77_LV) (f77_L r)) f77_c (K0 TT f77_rv) (enter [.ref (.rc [.v (.int .i8 a0), .v (.int .i8 a1), .fa 144 .u8 a2]), .v (.int .i64 a3), .v (.int .i64 a4)]) = (cond (!(s47 a0 a1 a2)) (some [.v (.int .i64 1)]) (cond (!(s57 a3 1 (IntKind.wrap .i64 a0))) (some [.v (.int .i64 2)]) (cond (!(s57 a4 1 (IntKind.wrap .i64 a1))) (some [.v (.int .i64 2)]) (some [.v (.int .i64 0)])))) := by kernel_rfl
noncomputable def l77 (r : Int) : List A := [.v (.int .i64 r)]
theorem s77_ok (a0 : Int) (a1 : Int) (a2 : (Nat → Int)) (a3 : Int) (a4 : Int) : (cond (!(s47 a0 a1 a2)) (some [.v (.int .i64 1)]) (cond (!(s57 a3 1 (IntKind.wrap .i64 a0))) (some [.v (.int .i64 2)]) (cond (!(s57 a4 1 (IntKind.wrap .i64 a1))) (some [.v (.int .i64 2)]) (some [.v (.int .i64 0)])))) = some (l77 (s77 a0 a1 a2 a3 a4)) := by
  unfold s77
  exact (cond_app (fun x => some (l77 x)) rfl (cond_app (fun x => some (l77 x)) rfl (cond_app (fun x => some (l77 x)) rfl rfl)))
noncomputable def c77 : List A → ACall
  | [.ref (.rc [.v (.int .i8 a0), .v (.int .i8 a1), .fa 144 .u8 a2]), .v (.int .i64 a3), .v (.int .i64 a4)] => ⟨Int, some (s77 a0 a1 a2 a3 a4), fun r => .one (.v (.int .i64 r))⟩
  | _ => ACall.fail
theorem f77_sound : Sound Try.prog 77 c77 := by
  refine sound_good f77_ctx f77_LV 3 Try.func77 (c := f77_c) (by kernel_rfl) (rv := f77_rv) (by kernel_rfl) (by kernel_rfl) (by kernel_rfl) (by kernel_rfl) fun rs => ?_
  unfold c77
  split
  · rename_i a0 a1 a2 a3 a4; intro v h; cases h; exact ⟨rfl, l77 (s77 a0 a1 a2 a3 a4), rfl, (f77_top a0 a1 a2 a3 a4 _).trans (s77_ok a0 a1 a2 a3 a4)⟩
  · intro v h; cases h

/-! ### function 94: loop.example/g01322/spec.l06Alike -/
noncomputable def f94_c : Code := match Try.f94.body with | some c => c | none => .skip
noncomputable def f94_X : Ctx := ⟨TT, phiOf [], noPsi⟩
def f94_LV : List (Nat × Keep) := []
def f94_rv : List ResultVar := [.tmp 8]
noncomputable def f94_L (r : List A) : Nat → AS → Option (List A) := L f94_X (cnOf f94_LV) f94_c (K0 TT f94_rv) r
theorem f94_ctx : CtxOK Try.prog f94_X := ctx_of tab mix trivial
noncomputable def s94 (a0 : Int) (a1 : Int) (a2 : Int) (a3 : Int) : Option Bool := (cond (decide (a2 = 0)) none (cond (decide (a2 = 0)) none (cond ((Int.tmod (Int.tmod a0 12) a2) == (Int.tmod (Int.tmod a1 12) a2)) (cond (decide (a3 = 0)) none (cond (decide (a3 = 0)) none (some ((Int.tmod (IntKind.wrap .i64 (Int.tdiv a0 12)) a3) == (Int.tmod (IntKind.wrap .i64 (Int.tdiv a1 12)) a3))))) (some false))))
theorem f94_top (a0 : Int) (a1 : Int) (a2 : Int) (a3 : Int) (r : List A) : ev f94_X (lpc (cnOf f94_LV) (f94_L r)) f94_c (K0 TT f94_rv) (enter [.v (.int .i64 a0), .v (.int .i64 a1), .v (.int .i64 a2), .v (.int .i64 a3)]) = (cond (decide (a2 = 0)) none (cond (decide (a2 = 0)) none (cond ((Int.tmod (Int.tmod a0 12) a2) == (Int.tmod (Int.tmod a1 12) a2)) (cond (decide (a3 = 0)) none (cond (decide (a3 = 0)) none (some [.v (.bool ((Int.tmod (IntKind.wrap .i64 (Int.tdiv a0 12)) a3) == (Int.tmod (IntKind.wrap .i64 (Int.tdiv a1 12)) a3)))]))) (some [.v (.bool false)])))) := by kernel_rfl
noncomputable def l94 (r : Bool) : List A := [.v (.bool r)]
theorem s94_ok (a0 : Int) (a1 : Int) (a2 : Int) (a3 : Int) (v : Bool) (h : s94 a0 a1 a2 a3 = some v) : (cond (decide (a2 = 0)) none (cond (decide (a2 = 0)) none (cond ((Int.tmod (Int.tmod a0 12) a2) == (Int.tmod (Int.tmod a1 12) a2)) (cond (decide (a3 = 0)) none (cond (decide (a3 = 0)) none (some [.v (.bool ((Int.tmod (IntKind.wrap .i64 (Int.tdiv a0 12)) a3) == (Int.tmod (IntKind.wrap .i64 (Int.tdiv a1 12)) a3)))]))) (some [.v (.bool false)])))) = some (l94 v) := by
  have e : (cond (decide (a2 = 0)) none (cond (decide (a2 = 0)) none (cond ((Int.tmod (Int.tmod a0 12) a2) == (Int.tmod (Int.tmod a1 12) a2)) (cond (decide (a3 = 0)) none (cond (decide (a3 = 0)) none (some [.v (.bool ((Int.tmod (IntKind.wrap .i64 (Int.tdiv a0 12)) a3) == (Int.tmod (IntKind.wrap .i64 (Int.tdiv a1 12)) a3)))]))) (some [.v (.bool false)])))) = Option.map l94 (s94 a0 a1 a2 a3) := by
    unfold s94
    exact (cond_app (Option.map l94) rfl (cond_app (Option.map l94) rfl (cond_app (Option.map l94) (cond_app (Option.map l94) rfl (cond_app (Option.map l94) rfl rfl)) rfl)))
  rw [e, h]; rfl
noncomputable def c94 : List A → ACall
  | [.v (.int .i64 a0), .v (.int .i64 a1), .v (.int .i64 a2), .v (.int .i64 a3)] => ⟨Bool, s94 a0 a1 a2 a3, fun r => .one (.v (.bool r))⟩
  | _ => ACall.fail
theorem f94_sound : Sound Try.prog 94 c94 := by
  refine sound_good f94_ctx f94_LV 4 Try.func94 (c := f94_c) (by kernel_rfl) (rv := f94_rv) (by kernel_rfl) (by kernel_rfl) (by kernel_rfl) (by kernel_rfl) fun rs => ?_
  unfold c94
  split
  · rename_i a0 a1 a2 a3; intro v h; exact ⟨rfl, l94 v, rfl, (f94_top a0 a1 a2 a3 _).trans (s94_ok a0 a1 a2 a3 v h)⟩
  · intro v h; cases h

/-! ### function 78: loop.example/g01322/spec.l06Conflict -/
noncomputable def f78_c : Code := match Try.f78.body with | some c => c | none => .skip
noncomputable def f78_X : Ctx := ⟨TT, phiOf [(94, c94)], noPsi⟩
def f78_LV : List (Nat × Keep) := [(2, ([0, 1, 2, 8], [], [])), (5, ([0, 1, 2, 8, 9], [], []))]
def f78_rv : List ResultVar := [.tmp 6, .tmp 7]
noncomputable def f78_L (r : List A) : Nat → AS → Option (List A) := L f78_X (cnOf f78_LV) f78_c (K0 TT f78_rv) r
theorem f78_ctx : CtxOK Try.prog f78_X := ctx_of tab mix ⟨⟨Try.call94, f94_sound⟩, trivial⟩
noncomputable def f78_s2 (x0 : Int) (x1 : Int) (x2 : Int) (x3 : Int) (x4 : Int) (x5 : (Nat → Int)) : AS := ⟨[(0, .a (.ptr 0 [] (0))), (1, .a (.v (.int .i64 x0))), (2, .a (.v (.int .i64 x1))), (8, .a (.v (.int .i64 x2)))], [(0, some ⟨false, .box (.rc [.v (.int .i8 x3), .v (.int .i8 x4), .fa 144 .u8 x5])⟩)], 1⟩
noncomputable def f78_s5 (x0 : Int) (x1 : Int) (x2 : Int) (x3 : Int) (x4 : Int) (x5 : Int) (x6 : (Nat → Int)) : AS := ⟨[(0, .a (.ptr 0 [] (0))), (1, .a (.v (.int .i64 x0))), (2, .a (.v (.int .i64 x1))), (8, .a (.v (.int .i64 x2))), (9, .a (.v (.int .i64 x3)))], [(0, some ⟨false, .box (.rc [.v (.int .i8 x4), .v (.int .i8 x5), .fa 144 .u8 x6])⟩)], 1⟩
noncomputable def l78 (r : (Int × Int)) : List A := [.v (.int .i64 r.1), .v (.int .i64 r.2)]
theorem f78_step5 (x0 : Int) (x1 : Int) (x2 : Int) (x3 : Int) (x4 : Int) (x5 : Int) (x6 : (Nat → Int)) (r : List A) (h : (cond (decide (x3 < 144)) (cond (inB x2 144) (cond ((x6 (Int.toNat x2)) != 0) (cond (inB x3 144) (cond ((x6 (Int.toNat x3)) != 0) (cond (inB x3 144) (cond (inB x2 144) (cond ((x6 (Int.toNat x3)) != (x6 (Int.toNat x2))) (Option.bind (s94 x2 x3 x0 x1) fun r1 => (cond r1 (some [.v (.int .i64 x2), .v (.int .i64 x3)]) (f78_L r 5 (f78_s5 x0 x1 x2 (IntKind.wrap .i64 (x3 + 1)) x4 x5 x6)))) (f78_L r 5 (f78_s5 x0 x1 x2 (IntKind.wrap .i64 (x3 + 1)) x4 x5 x6))) none) none) (f78_L r 5 (f78_s5 x0 x1 x2 (IntKind.wrap .i64 (x3 + 1)) x4 x5 x6))) none) (f78_L r 2 (f78_s2 x0 x1 (IntKind.wrap .i64 (x2 + 1)) x4 x5 x6))) none) (f78_L r 2 (f78_s2 x0 x1 (IntKind.wrap .i64 (x2 + 1)) x4 x5 x6))) = some r) : f78_L r 5 (f78_s5 x0 x1 x2 x3 x4 x5 x6) = some r :=
  step_of' h (by kernel_rfl)
noncomputable def f78_n5 (x0 : Int) (x1 : Int) (x2 : Int) (x3 : Int) (x4 : Int) (x5 : Int) (x6 : (Nat → Int)) : Option ((Int × Int × Int × Int × Int × Int × (Nat → Int)) ⊕ ((Int × Int × Int × Int × Int × (Nat → Int)) ⊕ (Int × Int))) := (cond (decide (x3 < 144)) (cond (inB x2 144) (cond ((x6 (Int.toNat x2)) != 0) (cond (inB x3 144) (cond ((x6 (Int.toNat x3)) != 0) (cond (inB x3 144) (cond (inB x2 144) (cond ((x6 (Int.toNat x3)) != (x6 (Int.toNat x2))) (Option.bind (s94 x2 x3 x0 x1) fun r1 => (cond r1 (some (Sum.inr (Sum.inr (x2, x3)))) (some (Sum.inl (x0, x1, x2, (IntKind.wrap .i64 (x3 + 1)), x4, x5, x6))))) (some (Sum.inl (x0, x1, x2, (IntKind.wrap .i64 (x3 + 1)), x4, x5, x6)))) none) none) (some (Sum.inl (x0, x1, x2, (IntKind.wrap .i64 (x3 + 1)), x4, x5, x6)))) none) (some (Sum.inr (Sum.inl (x0, x1, (IntKind.wrap .i64 (x2 + 1)), x4, x5, x6))))) none) (some (Sum.inr (Sum.inl (x0, x1, (IntKind.wrap .i64 (x2 + 1)), x4, x5, x6)))))
noncomputable def f78_run5 (x : (Int × Int × Int × Int × Int × Int × (Nat → Int))) : Option ((Int × Int × Int × Int × Int × (Nat → Int)) ⊕ (Int × Int)) := iter (fun x => f78_n5 x.1 x.2.1 x.2.2.1 x.2.2.2.1 x.2.2.2.2.1 x.2.2.2.2.2.1 x.2.2.2.2.2.2) FU x
noncomputable def f78_G5 (r : List A) (x : (Int × Int × Int × Int × Int × Int × (Nat → Int))) : Prop := f78_L r 5 (f78_s5 x.1 x.2.1 x.2.2.1 x.2.2.2.1 x.2.2.2.2.1 x.2.2.2.2.2.1 x.2.2.2.2.2.2) = some r
theorem f78_step2 (x0 : Int) (x1 : Int) (x2 : Int) (x3 : Int) (x4 : Int) (x5 : (Nat → Int)) (r : List A) (h : (cond (decide (x2 < 144)) (f78_L r 5 (f78_s5 x0 x1 x2 (IntKind.wrap .i64 (x2 + 1)) x3 x4 x5)) (some [.v (.int .i64 (-1)), .v (.int .i64 (-1))])) = some r) : f78_L r 2 (f78_s2 x0 x1 x2 x3 x4 x5) = some r :=
  step_of' h (by kernel_rfl)
noncomputable def f78_n2 (x0 : Int) (x1 : Int) (x2 : Int) (x3 : Int) (x4 : Int) (x5 : (Nat → Int)) : Option ((Int × Int × Int × Int × Int × (Nat → Int)) ⊕ (Int × Int)) := (cond (decide (x2 < 144)) (f78_run5 (x0, x1, x2, (IntKind.wrap .i64 (x2 + 1)), x3, x4, x5)) (some (Sum.inr ((-1), (-1)))))
noncomputable def f78_run2 (x : (Int × Int × Int × Int × Int × (Nat → Int))) : Option (Int × Int) := iter (fun x => f78_n2 x.1 x.2.1 x.2.2.1 x.2.2.2.1 x.2.2.2.2.1 x.2.2.2.2.2) FU x
noncomputable def f78_G2 (r : List A) (x : (Int × Int × Int × Int × Int × (Nat → Int))) : Prop := f78_L r 2 (f78_s2 x.1 x.2.1 x.2.2.1 x.2.2.2.1 x.2.2.2.2.1 x.2.2.2.2.2) = some r
noncomputable def f78_S2 (r : List A) : (Int × Int) → Prop := fun v => r = l78 v
noncomputable def f78_S5 (r : List A) : ((Int × Int × Int × Int × Int × (Nat → Int)) ⊕ (Int × Int)) → Prop := goesOn (f78_G2 r) (f78_S2 r)
theorem f78_go5 (r : List A) : ∀ x, sem (f78_S5 r) (f78_run5 x) → f78_G5 r x :=
  fun x => iter_sound (step := fun x => f78_n5 x.1 x.2.1 x.2.2.1 x.2.2.2.1 x.2.2.2.2.1 x.2.2.2.2.2.1 x.2.2.2.2.2.2) (fun x h => by
    unfold f78_n5 at h
    exact f78_step5 x.1 x.2.1 x.2.2.1 x.2.2.2.1 x.2.2.2.2.1 x.2.2.2.2.2.1 x.2.2.2.2.2.2 r ((sem_cond h (fun h => (sem_cond h (fun h => (sem_cond h (fun h => (sem_cond h (fun h => (sem_cond h (fun h => (sem_cond h (fun h => (sem_cond h (fun h => (sem_cond h (fun h => (sem_bind h fun r1 h => (sem_cond h (fun h => sem_got h fun q => some_eq q) (fun h => sem_got h fun q => q)))) (fun h => sem_got h fun q => q))) (fun h => sem_none h))) (fun h => sem_none h))) (fun h => sem_got h fun q => q))) (fun h => sem_none h))) (fun h => sem_got h fun q => q))) (fun h => sem_none h))) (fun h => sem_got h fun q => q)))) FU x
theorem f78_go2 (r : List A) : ∀ x, sem (f78_S2 r) (f78_run2 x) → f78_G2 r x :=
  fun x => iter_sound (step := fun x => f78_n2 x.1 x.2.1 x.2.2.1 x.2.2.2.1 x.2.2.2.2.1 x.2.2.2.2.2) (fun x h => by
    unfold f78_n2 at h
    exact f78_step2 x.1 x.2.1 x.2.2.1 x.2.2.2.1 x.2.2.2.2.1 x.2.2.2.2.2 r ((sem_cond h (fun h => f78_go5 r _ h) (fun h => sem_got h fun q => some_eq q)))) FU x
noncomputable def s78 (a0 : Int) (a1 : Int) (a2 : (Nat → Int)) (a3 : Int) (a4 : Int) : Option (Int × Int) := (f78_run2 (a3, a4, 0, a0, a1, a2))
theorem f78_top (a0 : Int) (a1 : Int) (a2 : (Nat → Int)) (a3 : Int) (a4 : Int) (r : List A) : ev f78_X (lpc (cnOf f78_LV) (f78_L r)) f78_c (K0 TT f78_rv) (enter [.ref (.rc [.v (.int .i8 a0), .v (.int .i8 a1), .fa 144 .u8 a2]), .v (.int .i64 a3), .v (.int .i64 a4)]) = (f78_L r 2 (f78_s2 a3 a4 0 a0 a1 a2)) := by kernel_rfl
theorem s78_ok (a0 : Int) (a1 : Int) (a2 : (Nat → Int)) (a3 : Int) (a4 : Int) (v : (Int × Int)) (h : s78 a0 a1 a2 a3 a4 = some v) : (f78_L (l78 v) 2 (f78_s2 a3 a4 0 a0 a1 a2)) = some (l78 v) := by
  unfold s78 at h
  have go : ∀ r, sem (fun v => r = l78 v) ((f78_run2 (a3, a4, 0, a0, a1, a2))) → (f78_L r 2 (f78_s2 a3 a4 0 a0 a1 a2)) = some r := fun r h => f78_go2 r _ h
  exact go (l78 v) ⟨v, h, rfl⟩
noncomputable def c78 : List A → ACall
  | [.ref (.rc [.v (.int .i8 a0), .v (.int .i8 a1), .fa 144 .u8 a2]), .v (.int .i64 a3), .v (.int .i64 a4)] => ⟨(Int × Int), s78 a0 a1 a2 a3 a4, fun r => .tup [.v (.int .i64 r.1), .v (.int .i64 r.2)]⟩
  | _ => ACall.fail
theorem f78_sound : Sound Try.prog 78 c78 := by
  refine sound_good f78_ctx f78_LV 3 Try.func78 (c := f78_c) (by kernel_rfl) (rv := f78_rv) (by kernel_rfl) (by kernel_rfl) (by kernel_rfl) (by kernel_rfl) fun rs => ?_
  unfold c78
  split
  · rename_i a0 a1 a2 a3 a4; intro v h; exact ⟨rfl, l78 v, rfl, (f78_top a0 a1 a2 a3 a4 _).trans (s78_ok a0 a1 a2 a3 a4 v h)⟩
  · intro v h; cases h

/-! ### function 43: loop.example/g01322/spec.FirstConflict -/
noncomputable def f43_c : Code := match Try.f43.body with | some c => c | none => .skip
noncomputable def f43_X : Ctx := ⟨TT, phiOf [(77, c77), (78, c78)], noPsi⟩
def f43_LV : List (Nat × Keep) := []
def f43_rv : List ResultVar := [.tmp 6, .tmp 7, .tmp 8]
noncomputable def f43_L (r : List A) : Nat → AS → Option (List A) := L f43_X (cnOf f43_LV) f43_c (K0 TT f43_rv) r
theorem f43_ctx : CtxOK Try.prog f43_X := ctx_of tab mix ⟨⟨Try.call77, f77_sound⟩, ⟨Try.call78, f78_sound⟩, trivial⟩
noncomputable def s43 (a0 : Int) (a1 : Int) (a2 : (Nat → Int)) (a3 : Int) (a4 : Int) : Option (Int × Int × Int) := (cond ((s77 a0 a1 a2 a3 a4) != 0) (some (0, 0, (s77 a0 a1 a2 a3 a4))) (Option.bind (s78 a0 a1 a2 a3 a4) fun r1 => (cond (decide (r1.1 < 0)) (some (0, 0, 6)) (some ((r1.1), (r1.2), 0)))))
theorem f43_top (a0 : Int) (a1 : Int) (a2 : (Nat → Int)) (a3 : Int) (a4 : Int) (r : List A) : ev f43_X (lpc (cnOf f43_LV) (f43_L r)) f43_c (K0 TT f43_rv) (enter [.rc [.v (.int .i8 a0), .v (.int .i8 a1), .fa 144 .u8 a2], .v (.int .i64 a3), .v (.int .i64 a4)]) = (cond ((s77 a0 a1 a2 a3 a4) != 0) (some [.v (.int .i64 0), .v (.int .i64 0), .v (.int .i64 (s77 a0 a1 a2 a3 a4))]) (Option.bind (s78 a0 a1 a2 a3 a4) fun r1 => (cond (decide (r1.1 < 0)) (some [.v (.int .i64 0), .v (.int .i64 0), .v (.int .i64 6)]) (some [.v (.int .i64 r1.1), .v (.int .i64 r1.2), .v (.int .i64 0)])))) := by kernel_rfl
noncomputable def l43 (r : (Int × Int × Int)) : List A := [.v (.int .i64 r.1), .v (.int .i64 r.2.1), .v (.int .i64 r.2.2)]
theorem s43_ok (a0 : Int) (a1 : Int) (a2 : (Nat → Int)) (a3 : Int) (a4 : Int) (v : (Int × Int × Int)) (h : s43 a0 a1 a2 a3 a4 = some v) : (cond ((s77 a0 a1 a2 a3 a4) != 0) (some [.v (.int .i64 0), .v (.int .i64 0), .v (.int .i64 (s77 a0 a1 a2 a3 a4))]) (Option.bind (s78 a0 a1 a2 a3 a4) fun r1 => (cond (decide (r1.1 < 0)) (some [.v (.int .i64 0), .v (.int .i64 0), .v (.int .i64 6)]) (some [.v (.int .i64 r1.1), .v (.int .i64 r1.2), .v (.int .i64 0)])))) = some (l43 v) := by
  have e : (cond ((s77 a0 a1 a2 a3 a4) != 0) (some [.v (.int .i64 0), .v (.int .i64 0), .v (.int .i64 (s77 a0 a1 a2 a3 a4))]) (Option.bind (s78 a0 a1 a2 a3 a4) fun r1 => (cond (decide (r1.1 < 0)) (some [.v (.int .i64 0), .v (.int .i64 0), .v (.int .i64 6)]) (some [.v (.int .i64 r1.1), .v (.int .i64 r1.2), .v (.int .i64 0)])))) = Option.map l43 (s43 a0 a1 a2 a3 a4) := by
    unfold s43
    exact (cond_app (Option.map l43) rfl (bind_app fun _ => (cond_app (Option.map l43) rfl rfl)))
  rw [e, h]; rfl
noncomputable def c43 : List A → ACall
  | [.rc [.v (.int .i8 a0), .v (.int .i8 a1), .fa 144 .u8 a2], .v (.int .i64 a3), .v (.int .i64 a4)] => ⟨(Int × Int × Int), s43 a0 a1 a2 a3 a4, fun r => .tup [.v (.int .i64 r.1), .v (.int .i64 r.2.1), .v (.int .i64 r.2.2)]⟩
  | _ => ACall.fail
theorem f43_sound : Sound Try.prog 43 c43 := by
  refine sound_good f43_ctx f43_LV 3 Try.func43 (c := f43_c) (by kernel_rfl) (rv := f43_rv) (by kernel_rfl) (by kernel_rfl) (by kernel_rfl) (by kernel_rfl) fun rs => ?_
  unfold c43
  split
  · rename_i a0 a1 a2 a3 a4; intro v h; exact ⟨rfl, l43 v, rfl, (f43_top a0 a1 a2 a3 a4 _).trans (s43_ok a0 a1 a2 a3 a4 v h)⟩
  · intro v h; cases h

/-! ### function 79: (loop.example/g01322/impl.Picture).arePeriods -/
noncomputable def f79_c : Code := match Try.f79.body with | some c => c | none => .skip
noncomputable def f79_X : Ctx := ⟨TT, phiOf [(63, c63), (69, c69)], noPsi⟩
def f79_LV : List (Nat × Keep) := []
def f79_rv : List ResultVar := [.tmp 6]
noncomputable def f79_L (r : List A) : Nat → AS → Option (List A) := L f79_X (cnOf f79_LV) f79_c (K0 TT f79_rv) r
theorem f79_ctx : CtxOK Try.prog f79_X := ctx_of tab mix ⟨⟨Try.call63, f63_sound⟩, ⟨Try.call69, f69_sound⟩, trivial⟩
noncomputable def s79 (a0 : Int) (a1 : Int) (a2 : (Nat → Int)) (a3 : Int) (a4 : Int) : Bool := (cond (s63 a3 1 (s69 a0 a1 a2).1) (s63 a4 1 (s69 a0 a1 a2).2) false)
theorem f79_top (a0 : Int) (a1 : Int) (a2 : (Nat → Int)) (a3 : Int) (a4 : Int) (r : List A) : ev f79_X (lpc (cnOf f79_LV) (f79_L r)) f79_c (K0 TT f79_rv) (enter [.rc [.v (.int .i8 a0), .v (.int .i8 a1), .fa 144 .u8 a2], .v (.int .i64 a3), .v (.int .i64 a4)]) = (cond (s63 a3 1 (s69 a0 a1 a2).1) (some [.v (.bool (s63 a4 1 (s69 a0 a1 a2).2))]) (some [.v (.bool false)])) := by kernel_rfl
noncomputable def l79 (r : Bool) : List A := [.v (.bool r)]
theorem s79_ok (a0 : Int) (a1 : Int) (a2 : (Nat → Int)) (a3 : Int) (a4 : Int) : (cond (s63 a3 1 (s69 a0 a1 a2).1) (some [.v (.bool (s63 a4 1 (s69 a0 a1 a2).2))]) (some [.v (.bool false)])) = some (l79 (s79 a0 a1 a2 a3 a4)) := by
  unfold s79
  exact (cond_app (fun x => some (l79 x)) rfl rfl)
noncomputable def c79 : List A → ACall
  | [.rc [.v (.int .i8 a0), .v (.int .i8 a1), .fa 144 .u8 a2], .v (.int .i64 a3), .v (.int .i64 a4)] => ⟨Bool, some (s79 a0 a1 a2 a3 a4), fun r => .one (.v (.bool r))⟩
  | _ => ACall.fail
theorem f79_sound : Sound Try.prog 79 c79 := by
  refine sound_good f79_ctx f79_LV 3 Try.func79 (c := f79_c) (by kernel_rfl) (rv := f79_rv) (by kernel_rfl) (by kernel_rfl) (by kernel_rfl) (by kernel_rfl) fun rs => ?_
  unfold c79
  split
  · rename_i a0 a1 a2 a3 a4; intro v h; cases h; exact ⟨rfl, l79 (s79 a0 a1 a2 a3 a4), rfl, (f79_top a0 a1 a2 a3 a4 _).trans (s79_ok a0 a1 a2 a3 a4)⟩
  · intro v h; cases h

/-! ### function 95: loop.example/g01322/impl.alike -/
noncomputable def f95_c : Code := match Try.f95.body with | some c => c | none => .skip
noncomputable def f95_X : Ctx := ⟨TT, phiOf [], noPsi⟩
def f95_LV : List (Nat × Keep) := []
def f95_rv : List ResultVar := [.tmp 8]
noncomputable def f95_L (r : List A) : Nat → AS → Option (List A) := L f95_X (cnOf f95_LV) f95_c (K0 TT f95_rv) r
theorem f95_ctx : CtxOK Try.prog f95_X := ctx_of tab mix trivial
noncomputable def s95 (a0 : Int) (a1 : Int) (a2 : Int) (a3 : Int) : Option Bool := (cond (decide (a2 = 0)) none (cond (decide (a2 = 0)) none (cond ((Int.tmod (Int.tmod a0 12) a2) == (Int.tmod (Int.tmod a1 12) a2)) (cond (decide (a3 = 0)) none (cond (decide (a3 = 0)) none (some ((Int.tmod (IntKind.wrap .i64 (Int.tdiv a0 12)) a3) == (Int.tmod (IntKind.wrap .i64 (Int.tdiv a1 12)) a3))))) (some false))))
theorem f95_top (a0 : Int) (a1 : Int) (a2 : Int) (a3 : Int) (r : List A) : ev f95_X (lpc (cnOf f95_LV) (f95_L r)) f95_c (K0 TT f95_rv) (enter [.v (.int .i64 a0), .v (.int .i64 a1), .v (.int .i64 a2), .v (.int .i64 a3)]) = (cond (decide (a2 = 0)) none (cond (decide (a2 = 0)) none (cond ((Int.tmod (Int.tmod a0 12) a2) == (Int.tmod (Int.tmod a1 12) a2)) (cond (decide (a3 = 0)) none (cond (decide (a3 = 0)) none (some [.v (.bool ((Int.tmod (IntKind.wrap .i64 (Int.tdiv a0 12)) a3) == (Int.tmod (IntKind.wrap .i64 (Int.tdiv a1 12)) a3)))]))) (some [.v (.bool false)])))) := by kernel_rfl
noncomputable def l95 (r : Bool) : List A := [.v (.bool r)]
theorem s95_ok (a0 : Int) (a1 : Int) (a2 : Int) (a3 : Int) (v : Bool) (h : s95 a0 a1 a2 a3 = some v) : (cond (decide (a2 = 0)) none (cond (decide (a2 = 0)) none (cond ((Int.tmod (Int.tmod a0 12) a2) == (Int.tmod (Int.tmod a1 12) a2)) (cond (decide (a3 = 0)) none (cond (decide (a3 = 0)) none (some [.v (.bool ((Int.tmod (IntKind.wrap .i64 (Int.tdiv a0 12)) a3) == (Int.tmod (IntKind.wrap .i64 (Int.tdiv a1 12)) a3)))]))) (some [.v (.bool false)])))) = some (l95 v) := by
  have e : (cond (decide (a2 = 0)) none (cond (decide (a2 = 0)) none (cond ((Int.tmod (Int.tmod a0 12) a2) == (Int.tmod (Int.tmod a1 12) a2)) (cond (decide (a3 = 0)) none (cond (decide (a3 = 0)) none (some [.v (.bool ((Int.tmod (IntKind.wrap .i64 (Int.tdiv a0 12)) a3) == (Int.tmod (IntKind.wrap .i64 (Int.tdiv a1 12)) a3)))]))) (some [.v (.bool false)])))) = Option.map l95 (s95 a0 a1 a2 a3) := by
    unfold s95
    exact (cond_app (Option.map l95) rfl (cond_app (Option.map l95) rfl (cond_app (Option.map l95) (cond_app (Option.map l95) rfl (cond_app (Option.map l95) rfl rfl)) rfl)))
  rw [e, h]; rfl
noncomputable def c95 : List A → ACall
  | [.v (.int .i64 a0), .v (.int .i64 a1), .v (.int .i64 a2), .v (.int .i64 a3)] => ⟨Bool, s95 a0 a1 a2 a3, fun r => .one (.v (.bool r))⟩
  | _ => ACall.fail
theorem f95_sound : Sound Try.prog 95 c95 := by
  refine sound_good f95_ctx f95_LV 4 Try.func95 (c := f95_c) (by kernel_rfl) (rv := f95_rv) (by kernel_rfl) (by kernel_rfl) (by kernel_rfl) (by kernel_rfl) fun rs => ?_
  unfold c95
  split
  · rename_i a0 a1 a2 a3; intro v h; exact ⟨rfl, l95 v, rfl, (f95_top a0 a1 a2 a3 _).trans (s95_ok a0 a1 a2 a3 v h)⟩
  · intro v h; cases h

/-! ### function 80: (loop.example/g01322/impl.Picture).conflict -/
noncomputable def f80_c : Code := match Try.f80.body with | some c => c | none => .skip
noncomputable def f80_X : Ctx := ⟨TT, phiOf [(67, c67), (95, c95)], noPsi⟩
def f80_LV : List (Nat × Keep) := [(3, ([1, 2, 3, 9, 16, 17, 18], [1], [])), (6, ([1, 2, 3, 9, 11, 16, 17, 18, 26, 27, 28], [], []))]
def f80_rv : List ResultVar := [.tmp 6, .tmp 7, .tmp 8]
noncomputable def f80_L (r : List A) : Nat → AS → Option (List A) := L f80_X (cnOf f80_LV) f80_c (K0 TT f80_rv) r
theorem f80_ctx : CtxOK Try.prog f80_X := ctx_of tab mix ⟨⟨Try.call67, f67_sound⟩, ⟨Try.call95, f95_sound⟩, trivial⟩
noncomputable def f80_s3 (x0 : Int) (x1 : Int) (x2 : Int) (x3 : Int) (x4 : Int) (x5 : Int) (x6 : (Nat → Int)) (x7 : (List Int)) : AS := ⟨[(1, .a (.v (.int .i64 x0))), (2, .a (.v (.int .i64 x1))), (3, .a (.ptr 0 [] (0))), (9, .a (.sl 1)), (16, .a (.sl 1)), (17, .a (.v (.int .i64 x2))), (18, .a (.v (.int .i64 x3)))], [(0, some ⟨true, .box (.rc [.v (.int .i8 x4), .v (.int .i8 x5), .fa 144 .u8 x6])⟩), (1, some ⟨false, .arr (.one (.i .i64)) x7⟩)], 2⟩
noncomputable def f80_s6 (x0 : Int) (x1 : Int) (x2 : Int) (x3 : Int) (x4 : Int) (x5 : Int) (x6 : Int) (x7 : Int) (x8 : Int) (x9 : (Nat → Int)) (x10 : (List Int)) (x11 : (List Int)) : AS := ⟨[(1, .a (.v (.int .i64 x0))), (2, .a (.v (.int .i64 x1))), (3, .a (.ptr 0 [] (0))), (9, .a (.sl 1)), (11, .a (.v (.int .i64 x2))), (16, .a (.sl 1)), (17, .a (.v (.int .i64 x3))), (18, .a (.v (.int .i64 x4))), (26, .a (.sl 2)), (27, .a (.v (.int .i64 x5))), (28, .a (.v (.int .i64 x6)))], [(0, some ⟨true, .box (.rc [.v (.int .i8 x7), .v (.int .i8 x8), .fa 144 .u8 x9])⟩), (1, some ⟨false, .arr (.one (.i .i64)) x10⟩), (2, some ⟨false, .arr (.one (.i .i64)) x11⟩)], 3⟩
noncomputable def l80 (r : (Int × Int × Bool)) : List A := [.v (.int .i64 r.1), .v (.int .i64 r.2.1), .v (.bool r.2.2)]
theorem f80_step6 (x0 : Int) (x1 : Int) (x2 : Int) (x3 : Int) (x4 : Int) (x5 : Int) (x6 : Int) (x7 : Int) (x8 : Int) (x9 : (Nat → Int)) (x10 : (List Int)) (x11 : (List Int)) (r : List A) (h : (cond (decide (x6 < x5)) (cond (inB x6 (List.length x11)) (cond (inB x2 144) (cond ((x9 (Int.toNat x2)) != 0) (cond (inB (List.getD x11 (Int.toNat x6) 0) 144) (cond ((x9 (Int.toNat (List.getD x11 (Int.toNat x6) 0))) != 0) (cond (inB x2 144) (cond (inB (List.getD x11 (Int.toNat x6) 0) 144) (cond ((x9 (Int.toNat x2)) != (x9 (Int.toNat (List.getD x11 (Int.toNat x6) 0)))) (Option.bind (s95 x2 (List.getD x11 (Int.toNat x6) 0) x0 x1) fun r2 => (cond r2 (some [.v (.int .i64 x2), .v (.int .i64 (List.getD x11 (Int.toNat x6) 0)), .v (.bool true)]) (f80_L r 6 (f80_s6 x0 x1 x2 x3 x4 x5 (IntKind.wrap .i64 (x6 + 1)) x7 x8 x9 x10 x11)))) (f80_L r 6 (f80_s6 x0 x1 x2 x3 x4 x5 (IntKind.wrap .i64 (x6 + 1)) x7 x8 x9 x10 x11))) none) none) (f80_L r 6 (f80_s6 x0 x1 x2 x3 x4 x5 (IntKind.wrap .i64 (x6 + 1)) x7 x8 x9 x10 x11))) none) (f80_L r 6 (f80_s6 x0 x1 x2 x3 x4 x5 (IntKind.wrap .i64 (x6 + 1)) x7 x8 x9 x10 x11))) none) none) (f80_L r 3 (f80_s3 x0 x1 x3 (IntKind.wrap .i64 (x4 + 1)) x7 x8 x9 x10))) = some r) : f80_L r 6 (f80_s6 x0 x1 x2 x3 x4 x5 x6 x7 x8 x9 x10 x11) = some r :=
  step_of' h (by kernel_rfl)
noncomputable def f80_n6 (x0 : Int) (x1 : Int) (x2 : Int) (x3 : Int) (x4 : Int) (x5 : Int) (x6 : Int) (x7 : Int) (x8 : Int) (x9 : (Nat → Int)) (x10 : (List Int)) (x11 : (List Int)) : Option ((Int × Int × Int × Int × Int × Int × Int × Int × Int × (Nat → Int) × (List Int) × (List Int)) ⊕ ((Int × Int × Int × Int × Int × Int × (Nat → Int) × (List Int)) ⊕ (Int × Int × Bool))) := (cond (decide (x6 < x5)) (cond (inB x6 (List.length x11)) (cond (inB x2 144) (cond ((x9 (Int.toNat x2)) != 0) (cond (inB (List.getD x11 (Int.toNat x6) 0) 144) (cond ((x9 (Int.toNat (List.getD x11 (Int.toNat x6) 0))) != 0) (cond (inB x2 144) (cond (inB (List.getD x11 (Int.toNat x6) 0) 144) (cond ((x9 (Int.toNat x2)) != (x9 (Int.toNat (List.getD x11 (Int.toNat x6) 0)))) (Option.bind (s95 x2 (List.getD x11 (Int.toNat x6) 0) x0 x1) fun r2 => (cond r2 (some (Sum.inr (Sum.inr (x2, (List.getD x11 (Int.toNat x6) 0), true)))) (some (Sum.inl (x0, x1, x2, x3, x4, x5, (IntKind.wrap .i64 (x6 + 1)), x7, x8, x9, x10, x11))))) (some (Sum.inl (x0, x1, x2, x3, x4, x5, (IntKind.wrap .i64 (x6 + 1)), x7, x8, x9, x10, x11)))) none) none) (some (Sum.inl (x0, x1, x2, x3, x4, x5, (IntKind.wrap .i64 (x6 + 1)), x7, x8, x9, x10, x11)))) none) (some (Sum.inl (x0, x1, x2, x3, x4, x5, (IntKind.wrap .i64 (x6 + 1)), x7, x8, x9, x10, x11)))) none) none) (some (Sum.inr (Sum.inl (x0, x1, x3, (IntKind.wrap .i64 (x4 + 1)), x7, x8, x9, x10)))))
noncomputable def f80_run6 (x : (Int × Int × Int × Int × Int × Int × Int × Int × Int × (Nat → Int) × (List Int) × (List Int))) : Option ((Int × Int × Int × Int × Int × Int × (Nat → Int) × (List Int)) ⊕ (Int × Int × Bool)) := iter (fun x => f80_n6 x.1 x.2.1 x.2.2.1 x.2.2.2.1 x.2.2.2.2.1 x.2.2.2.2.2.1 x.2.2.2.2.2.2.1 x.2.2.2.2.2.2.2.1 x.2.2.2.2.2.2.2.2.1 x.2.2.2.2.2.2.2.2.2.1 x.2.2.2.2.2.2.2.2.2.2.1 x.2.2.2.2.2.2.2.2.2.2.2) FU x
noncomputable def f80_G6 (r : List A) (x : (Int × Int × Int × Int × Int × Int × Int × Int × Int × (Nat → Int) × (List Int) × (List Int))) : Prop := f80_L r 6 (f80_s6 x.1 x.2.1 x.2.2.1 x.2.2.2.1 x.2.2.2.2.1 x.2.2.2.2.2.1 x.2.2.2.2.2.2.1 x.2.2.2.2.2.2.2.1 x.2.2.2.2.2.2.2.2.1 x.2.2.2.2.2.2.2.2.2.1 x.2.2.2.2.2.2.2.2.2.2.1 x.2.2.2.2.2.2.2.2.2.2.2) = some r
theorem f80_step3 (x0 : Int) (x1 : Int) (x2 : Int) (x3 : Int) (x4 : Int) (x5 : Int) (x6 : (Nat → Int)) (x7 : (List Int)) (r : List A) (h : (cond (decide (x3 < x2)) (cond (inB x3 (List.length x7)) (cond (inS (IntKind.wrap .i64 (x3 + 1)) ((List.length x7 : Nat) : Int) (List.length x7)) (f80_L r 6 (f80_s6 x0 x1 (List.getD x7 (Int.toNat x3) 0) x2 x3 ((List.length (List.drop (Int.toNat (IntKind.wrap .i64 (x3 + 1))) (List.take (Int.toNat ((List.length x7 : Nat) : Int)) x7)) : Nat) : Int) 0 x4 x5 x6 x7 (List.drop (Int.toNat (IntKind.wrap .i64 (x3 + 1))) (List.take (Int.toNat ((List.length x7 : Nat) : Int)) x7)))) none) none) (some [.v (.int .i64 0), .v (.int .i64 0), .v (.bool false)])) = some r) : f80_L r 3 (f80_s3 x0 x1 x2 x3 x4 x5 x6 x7) = some r :=
  step_of' h (by kernel_rfl)
noncomputable def f80_n3 (x0 : Int) (x1 : Int) (x2 : Int) (x3 : Int) (x4 : Int) (x5 : Int) (x6 : (Nat → Int)) (x7 : (List Int)) : Option ((Int × Int × Int × Int × Int × Int × (Nat → Int) × (List Int)) ⊕ (Int × Int × Bool)) := (cond (decide (x3 < x2)) (cond (inB x3 (List.length x7)) (cond (inS (IntKind.wrap .i64 (x3 + 1)) ((List.length x7 : Nat) : Int) (List.length x7)) (f80_run6 (x0, x1, (List.getD x7 (Int.toNat x3) 0), x2, x3, ((List.length (List.drop (Int.toNat (IntKind.wrap .i64 (x3 + 1))) (List.take (Int.toNat ((List.length x7 : Nat) : Int)) x7)) : Nat) : Int), 0, x4, x5, x6, x7, (List.drop (Int.toNat (IntKind.wrap .i64 (x3 + 1))) (List.take (Int.toNat ((List.length x7 : Nat) : Int)) x7)))) none) none) (some (Sum.inr (0, 0, false))))
noncomputable def f80_run3 (x : (Int × Int × Int × Int × Int × Int × (Nat → Int) × (List Int))) : Option (Int × Int × Bool) := iter (fun x => f80_n3 x.1 x.2.1 x.2.2.1 x.2.2.2.1 x.2.2.2.2.1 x.2.2.2.2.2.1 x.2.2.2.2.2.2.1 x.2.2.2.2.2.2.2) FU x
noncomputable def f80_G3 (r : List A) (x : (Int × Int × Int × Int × Int × Int × (Nat → Int) × (List Int))) : Prop := f80_L r 3 (f80_s3 x.1 x.2.1 x.2.2.1 x.2.2.2.1 x.2.2.2.2.1 x.2.2.2.2.2.1 x.2.2.2.2.2.2.1 x.2.2.2.2.2.2.2) = some r
noncomputable def f80_S3 (r : List A) : (Int × Int × Bool) → Prop := fun v => r = l80 v
noncomputable def f80_S6 (r : List A) : ((Int × Int × Int × Int × Int × Int × (Nat → Int) × (List Int)) ⊕ (Int × Int × Bool)) → Prop := goesOn (f80_G3 r) (f80_S3 r)
theorem f80_go6 (r : List A) : ∀ x, sem (f80_S6 r) (f80_run6 x) → f80_G6 r x :=
  fun x => iter_sound (step := fun x => f80_n6 x.1 x.2.1 x.2.2.1 x.2.2.2.1 x.2.2.2.2.1 x.2.2.2.2.2.1 x.2.2.2.2.2.2.1 x.2.2.2.2.2.2.2.1 x.2.2.2.2.2.2.2.2.1 x.2.2.2.2.2.2.2.2.2.1 x.2.2.2.2.2.2.2.2.2.2.1 x.2.2.2.2.2.2.2.2.2.2.2) (fun x h => by
    unfold f80_n6 at h
    exact f80_step6 x.1 x.2.1 x.2.2.1 x.2.2.2.1 x.2.2.2.2.1 x.2.2.2.2.2.1 x.2.2.2.2.2.2.1 x.2.2.2.2.2.2.2.1 x.2.2.2.2.2.2.2.2.1 x.2.2.2.2.2.2.2.2.2.1 x.2.2.2.2.2.2.2.2.2.2.1 x.2.2.2.2.2.2.2.2.2.2.2 r ((sem_cond h (fun h => (sem_cond h (fun h => (sem_cond h (fun h => (sem_cond h (fun h => (sem_cond h (fun h => (sem_cond h (fun h => (sem_cond h (fun h => (sem_cond h (fun h => (sem_cond h (fun h => (sem_bind h fun r2 h => (sem_cond h (fun h => sem_got h fun q => some_eq q) (fun h => sem_got h fun q => q)))) (fun h => sem_got h fun q => q))) (fun h => sem_none h))) (fun h => sem_none h))) (fun h => sem_got h fun q => q))) (fun h => sem_none h))) (fun h => sem_got h fun q => q))) (fun h => sem_none h))) (fun h => sem_none h))) (fun h => sem_got h fun q => q)))) FU x
theorem f80_go3 (r : List A) : ∀ x, sem (f80_S3 r) (f80_run3 x) → f80_G3 r x :=
  fun x => iter_sound (step := fun x => f80_n3 x.1 x.2.1 x.2.2.1 x.2.2.2.1 x.2.2.2.2.1 x.2.2.2.2.2.1 x.2.2.2.2.2.2.1 x.2.2.2.2.2.2.2) (fun x h => by
    unfold f80_n3 at h
    exact f80_step3 x.1 x.2.1 x.2.2.1 x.2.2.2.1 x.2.2.2.2.1 x.2.2.2.2.2.1 x.2.2.2.2.2.2.1 x.2.2.2.2.2.2.2 r ((sem_cond h (fun h => (sem_cond h (fun h => (sem_cond h (fun h => f80_go6 r _ h) (fun h => sem_none h))) (fun h => sem_none h))) (fun h => sem_got h fun q => some_eq q)))) FU x
noncomputable def s80 (a0 : Int) (a1 : Int) (a2 : (Nat → Int)) (a3 : Int) (a4 : Int) : Option (Int × Int × Bool) := (Option.bind (s67 a0 a1 a2) fun r1 => (f80_run3 (a3, a4, ((List.length r1 : Nat) : Int), 0, a0, a1, a2, r1)))
theorem f80_top (a0 : Int) (a1 : Int) (a2 : (Nat → Int)) (a3 : Int) (a4 : Int) (r : List A) : ev f80_X (lpc (cnOf f80_LV) (f80_L r)) f80_c (K0 TT f80_rv) (enter [.rc [.v (.int .i8 a0), .v (.int .i8 a1), .fa 144 .u8 a2], .v (.int .i64 a3), .v (.int .i64 a4)]) = (Option.bind (s67 a0 a1 a2) fun r1 => (f80_L r 3 (f80_s3 a3 a4 ((List.length r1 : Nat) : Int) 0 a0 a1 a2 r1))) := by kernel_rfl
theorem s80_ok (a0 : Int) (a1 : Int) (a2 : (Nat → Int)) (a3 : Int) (a4 : Int) (v : (Int × Int × Bool)) (h : s80 a0 a1 a2 a3 a4 = some v) : (Option.bind (s67 a0 a1 a2) fun r1 => (f80_L (l80 v) 3 (f80_s3 a3 a4 ((List.length r1 : Nat) : Int) 0 a0 a1 a2 r1))) = some (l80 v) := by
  unfold s80 at h
  have go : ∀ r, sem (fun v => r = l80 v) ((Option.bind (s67 a0 a1 a2) fun r1 => (f80_run3 (a3, a4, ((List.length r1 : Nat) : Int), 0, a0, a1, a2, r1)))) → (Option.bind (s67 a0 a1 a2) fun r1 => (f80_L r 3 (f80_s3 a3 a4 ((List.length r1 : Nat) : Int) 0 a0 a1 a2 r1))) = some r := fun r h => (sem_bind h fun r1 h => f80_go3 r _ h)
  exact go (l80 v) ⟨v, h, rfl⟩
noncomputable def c80 : List A → ACall
  | [.rc [.v (.int .i8 a0), .v (.int .i8 a1), .fa 144 .u8 a2], .v (.int .i64 a3), .v (.int .i64 a4)] => ⟨(Int × Int × Bool), s80 a0 a1 a2 a3 a4, fun r => .tup [.v (.int .i64 r.1), .v (.int .i64 r.2.1), .v (.bool r.2.2)]⟩
  | _ => ACall.fail
theorem f80_sound : Sound Try.prog 80 c80 := by
  refine sound_good f80_ctx f80_LV 3 Try.func80 (c := f80_c) (by kernel_rfl) (rv := f80_rv) (by kernel_rfl) (by kernel_rfl) (by kernel_rfl) (by kernel_rfl) fun rs => ?_
  unfold c80
  split
  · rename_i a0 a1 a2 a3 a4; intro v h; exact ⟨rfl, l80 v, rfl, (f80_top a0 a1 a2 a3 a4 _).trans (s80_ok a0 a1 a2 a3 a4 v h)⟩
  · intro v h; cases h

/-! ### function 44: loop.example/g01322/impl.FirstConflict -/
noncomputable def f44_c : Code := match Try.f44.body with | some c => c | none => .skip
noncomputable def f44_X : Ctx := ⟨TT, phiOf [(52, c52), (53, c53), (79, c79), (80, c80)], noPsi⟩
def f44_LV : List (Nat × Keep) := []
def f44_rv : List ResultVar := [.tmp 6, .tmp 7, .tmp 8]
noncomputable def f44_L (r : List A) : Nat → AS → Option (List A) := L f44_X (cnOf f44_LV) f44_c (K0 TT f44_rv) r
theorem f44_ctx : CtxOK Try.prog f44_X := ctx_of tab mix ⟨⟨Try.call52, f52_sound⟩, ⟨Try.call53, f53_sound⟩, ⟨Try.call79, f79_sound⟩, ⟨Try.call80, f80_sound⟩, trivial⟩
noncomputable def s44 (a0 : Int) (a1 : Int) (a2 : (Nat → Int)) (a3 : Int) (a4 : Int) : Option (Int × Int × Int) := (cond ((s52 (s53 a0 a1 a2) (s79 a0 a1 a2 a3 a4)) != 0) (some (0, 0, (s52 (s53 a0 a1 a2) (s79 a0 a1 a2 a3 a4)))) (Option.bind (s80 a0 a1 a2 a3 a4) fun r1 => (cond (!r1.2.2) (some (0, 0, 6)) (some ((r1.1), (r1.2.1), 0)))))
theorem f44_top (a0 : Int) (a1 : Int) (a2 : (Nat → Int)) (a3 : Int) (a4 : Int) (r : List A) : ev f44_X (lpc (cnOf f44_LV) (f44_L r)) f44_c (K0 TT f44_rv) (enter [.rc [.v (.int .i8 a0), .v (.int .i8 a1), .fa 144 .u8 a2], .v (.int .i64 a3), .v (.int .i64 a4)]) = (cond ((s52 (s53 a0 a1 a2) (s79 a0 a1 a2 a3 a4)) != 0) (some [.v (.int .i64 0), .v (.int .i64 0), .v (.int .i64 (s52 (s53 a0 a1 a2) (s79 a0 a1 a2 a3 a4)))]) (Option.bind (s80 a0 a1 a2 a3 a4) fun r1 => (cond (!r1.2.2) (some [.v (.int .i64 0), .v (.int .i64 0), .v (.int .i64 6)]) (some [.v (.int .i64 r1.1), .v (.int .i64 r1.2.1), .v (.int .i64 0)])))) := by kernel_rfl
noncomputable def l44 (r : (Int × Int × Int)) : List A := [.v (.int .i64 r.1), .v (.int .i64 r.2.1), .v (.int .i64 r.2.2)]
theorem s44_ok (a0 : Int) (a1 : Int) (a2 : (Nat → Int)) (a3 : Int) (a4 : Int) (v : (Int × Int × Int)) (h : s44 a0 a1 a2 a3 a4 = some v) : (cond ((s52 (s53 a0 a1 a2) (s79 a0 a1 a2 a3 a4)) != 0) (some [.v (.int .i64 0), .v (.int .i64 0), .v (.int .i64 (s52 (s53 a0 a1 a2) (s79 a0 a1 a2 a3 a4)))]) (Option.bind (s80 a0 a1 a2 a3 a4) fun r1 => (cond (!r1.2.2) (some [.v (.int .i64 0), .v (.int .i64 0), .v (.int .i64 6)]) (some [.v (.int .i64 r1.1), .v (.int .i64 r1.2.1), .v (.int .i64 0)])))) = some (l44 v) := by
  have e : (cond ((s52 (s53 a0 a1 a2) (s79 a0 a1 a2 a3 a4)) != 0) (some [.v (.int .i64 0), .v (.int .i64 0), .v (.int .i64 (s52 (s53 a0 a1 a2) (s79 a0 a1 a2 a3 a4)))]) (Option.bind (s80 a0 a1 a2 a3 a4) fun r1 => (cond (!r1.2.2) (some [.v (.int .i64 0), .v (.int .i64 0), .v (.int .i64 6)]) (some [.v (.int .i64 r1.1), .v (.int .i64 r1.2.1), .v (.int .i64 0)])))) = Option.map l44 (s44 a0 a1 a2 a3 a4) := by
    unfold s44
    exact (cond_app (Option.map l44) rfl (bind_app fun _ => (cond_app (Option.map l44) rfl rfl)))
  rw [e, h]; rfl
noncomputable def c44 : List A → ACall
  | [.rc [.v (.int .i8 a0), .v (.int .i8 a1), .fa 144 .u8 a2], .v (.int .i64 a3), .v (.int .i64 a4)] => ⟨(Int × Int × Int), s44 a0 a1 a2 a3 a4, fun r => .tup [.v (.int .i64 r.1), .v (.int .i64 r.2.1), .v (.int .i64 r.2.2)]⟩
  | _ => ACall.fail
theorem f44_sound : Sound Try.prog 44 c44 := by
  refine sound_good f44_ctx f44_LV 3 Try.func44 (c := f44_c) (by kernel_rfl) (rv := f44_rv) (by kernel_rfl) (by kernel_rfl) (by kernel_rfl) (by kernel_rfl) fun rs => ?_
  unfold c44
  split
  · rename_i a0 a1 a2 a3 a4; intro v h; exact ⟨rfl, l44 v, rfl, (f44_top a0 a1 a2 a3 a4 _).trans (s44_ok a0 a1 a2 a3 a4 v h)⟩
  · intro v h; cases h

/-! ### function 13: loop.example/g01322/laws.FnExactFirstConflict -/
noncomputable def f13_c : Code := match Try.f13.body with | some c => c | none => .skip
noncomputable def f13_X : Ctx := ⟨TT, phiOf [(16, c16), (43, c43), (44, c44)], noPsi⟩
def f13_LV : List (Nat × Keep) := []
def f13_rv : List ResultVar := [.tmp 6]
noncomputable def f13_L (r : List A) : Nat → AS → Option (List A) := L f13_X (cnOf f13_LV) f13_c (K0 TT f13_rv) r
theorem f13_ctx : CtxOK Try.prog f13_X := ctx_of tab mix ⟨⟨Try.call16, f16_sound⟩, ⟨Try.call43, f43_sound⟩, ⟨Try.call44, f44_sound⟩, trivial⟩
noncomputable def s13 (a0 : Int) (a1 : Int) (a2 : (Nat → Int)) (a3 : Int) (a4 : Int) : Option Bool := (Option.bind (s43 (s16 a0 a1 a2).1 (s16 a0 a1 a2).2.1 (s16 a0 a1 a2).2.2 a3 a4) fun r1 => (Option.bind (s44 (s16 a0 a1 a2).1 (s16 a0 a1 a2).2.1 (s16 a0 a1 a2).2.2 a3 a4) fun r2 => (cond (r2.1 != r1.1) (some false) (cond (r2.2.1 != r1.2.1) (some false) (cond (r2.2.2 != r1.2.2) (some false) (some true))))))
theorem f13_top (a0 : Int) (a1 : Int) (a2 : (Nat → Int)) (a3 : Int) (a4 : Int) (r : List A) : ev f13_X (lpc (cnOf f13_LV) (f13_L r)) f13_c (K0 TT f13_rv) (enter [.rc [.v (.int .i8 a0), .v (.int .i8 a1), .fa 144 .u8 a2], .v (.int .i64 a3), .v (.int .i64 a4)]) = (Option.bind (s43 (s16 a0 a1 a2).1 (s16 a0 a1 a2).2.1 (s16 a0 a1 a2).2.2 a3 a4) fun r1 => (Option.bind (s44 (s16 a0 a1 a2).1 (s16 a0 a1 a2).2.1 (s16 a0 a1 a2).2.2 a3 a4) fun r2 => (cond (r2.1 != r1.1) (some [.v (.bool false)]) (cond (r2.2.1 != r1.2.1) (some [.v (.bool false)]) (cond (r2.2.2 != r1.2.2) (some [.v (.bool false)]) (some [.v (.bool true)])))))) := by kernel_rfl
noncomputable def l13 (r : Bool) : List A := [.v (.bool r)]
theorem s13_ok (a0 : Int) (a1 : Int) (a2 : (Nat → Int)) (a3 : Int) (a4 : Int) (v : Bool) (h : s13 a0 a1 a2 a3 a4 = some v) : (Option.bind (s43 (s16 a0 a1 a2).1 (s16 a0 a1 a2).2.1 (s16 a0 a1 a2).2.2 a3 a4) fun r1 => (Option.bind (s44 (s16 a0 a1 a2).1 (s16 a0 a1 a2).2.1 (s16 a0 a1 a2).2.2 a3 a4) fun r2 => (cond (r2.1 != r1.1) (some [.v (.bool false)]) (cond (r2.2.1 != r1.2.1) (some [.v (.bool false)]) (cond (r2.2.2 != r1.2.2) (some [.v (.bool false)]) (some [.v (.bool true)])))))) = some (l13 v) := by
  have e : (Option.bind (s43 (s16 a0 a1 a2).1 (s16 a0 a1 a2).2.1 (s16 a0 a1 a2).2.2 a3 a4) fun r1 => (Option.bind (s44 (s16 a0 a1 a2).1 (s16 a0 a1 a2).2.1 (s16 a0 a1 a2).2.2 a3 a4) fun r2 => (cond (r2.1 != r1.1) (some [.v (.bool false)]) (cond (r2.2.1 != r1.2.1) (some [.v (.bool false)]) (cond (r2.2.2 != r1.2.2) (some [.v (.bool false)]) (some [.v (.bool true)])))))) = Option.map l13 (s13 a0 a1 a2 a3 a4) := by
    unfold s13
    exact (bind_app fun _ => (bind_app fun _ => (cond_app (Option.map l13) rfl (cond_app (Option.map l13) rfl (cond_app (Option.map l13) rfl rfl)))))
  rw [e, h]; rfl
noncomputable def c13 : List A → ACall
  | [.rc [.v (.int .i8 a0), .v (.int .i8 a1), .fa 144 .u8 a2], .v (.int .i64 a3), .v (.int .i64 a4)] => ⟨Bool, s13 a0 a1 a2 a3 a4, fun r => .one (.v (.bool r))⟩
  | _ => ACall.fail
theorem f13_sound : Sound Try.prog 13 c13 := by
  refine sound_good f13_ctx f13_LV 3 Try.func13 (c := f13_c) (by kernel_rfl) (rv := f13_rv) (by kernel_rfl) (by kernel_rfl) (by kernel_rfl) (by kernel_rfl) fun rs => ?_
  unfold c13
  split
  · rename_i a0 a1 a2 a3 a4; intro v h; exact ⟨rfl, l13 v, rfl, (f13_top a0 a1 a2 a3 a4 _).trans (s13_ok a0 a1 a2 a3 a4 v h)⟩
  · intro v h; cases h
end Go.RR
