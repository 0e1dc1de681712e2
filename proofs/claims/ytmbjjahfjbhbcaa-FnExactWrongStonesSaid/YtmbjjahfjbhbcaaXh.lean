/- Functions with slices of results. -/
import Derived.Test.YtmbjjahfjbhbcaaXb
set_option linter.unusedVariables false
set_option linter.unusedSimpArgs false
set_option maxRecDepth 100000
namespace Go.RR
open Go Go.Proofs

/-! ### function 28: loop.example/g01322/laws.markInt64S -/
noncomputable def f28_c : Code := match Try.f28.body with | some c => c | none => .skip
noncomputable def f28_X : Ctx := ⟨TT, phiOf [], noPsi⟩
def f28_LV : List (Nat × Keep) := [(2, ([0, 1, 5], [], []))]
def f28_rv : List ResultVar := [.tmp 4]
noncomputable def f28_L (r : List A) : Nat → AS → Option (List A) := L f28_X (cnOfU f28_LV) f28_c (K0U TT f28_rv) r
theorem f28_ctx : CtxOK Try.prog f28_X := ctx_of tab mix trivial
noncomputable def f28_s2 (x0 : Int) (x1 : Int) (x2 : (List Int)) : AS := ⟨[(0, .a (.sl 0)), (1, .a (.v (.int .i64 x0))), (5, .a (.v (.int .i64 x1)))], [(0, some ⟨true, .arr (.one (.i .i64)) x2⟩)], 1⟩
noncomputable def l28 (r : (Int × (List Int))) : List A := [.v (.int .i64 r.1), .lst (.one (.i .i64)) r.2]
theorem f28_step2 (x0 : Int) (x1 : Int) (x2 : (List Int)) (r : List A) (h : (cond (decide (x1 < ((List.length x2 : Nat) : Int))) (cond (inB x1 (List.length x2)) (f28_L r 2 (f28_s2 (IntKind.wrap .i64 (x0 + 1)) (IntKind.wrap .i64 (x1 + 1)) (List.set x2 (Int.toNat x1) x0))) none) (some [.v (.int .i64 x0), .lst (.one (.i .i64)) x2])) = some r) : f28_L r 2 (f28_s2 x0 x1 x2) = some r :=
  step_of' h (by kernel_rfl)
noncomputable def f28_n2 (x0 : Int) (x1 : Int) (x2 : (List Int)) : Option ((Int × Int × (List Int)) ⊕ (Int × (List Int))) := (cond (decide (x1 < ((List.length x2 : Nat) : Int))) (cond (inB x1 (List.length x2)) (some (Sum.inl ((IntKind.wrap .i64 (x0 + 1)), (IntKind.wrap .i64 (x1 + 1)), (List.set x2 (Int.toNat x1) x0)))) none) (some (Sum.inr (x0, x2))))
noncomputable def f28_run2 (x : (Int × Int × (List Int))) : Option (Int × (List Int)) := iter (fun x => f28_n2 x.1 x.2.1 x.2.2) FU x
noncomputable def f28_G2 (r : List A) (x : (Int × Int × (List Int))) : Prop := f28_L r 2 (f28_s2 x.1 x.2.1 x.2.2) = some r
noncomputable def f28_S2 (r : List A) : (Int × (List Int)) → Prop := fun v => r = l28 v
theorem f28_go2 (r : List A) : ∀ x, sem (f28_S2 r) (f28_run2 x) → f28_G2 r x :=
  fun x => iter_sound (step := fun x => f28_n2 x.1 x.2.1 x.2.2) (fun x h => by
    unfold f28_n2 at h
    exact f28_step2 x.1 x.2.1 x.2.2 r ((sem_cond h (fun h => (sem_cond h (fun h => sem_got h fun q => q) (fun h => sem_none h))) (fun h => sem_got h fun q => some_eq q)))) FU x
noncomputable def s28 (a0 : (List Int)) (a1 : Int) : Option (Int × (List Int)) := (f28_run2 (a1, 0, a0))
theorem f28_top (a0 : (List Int)) (a1 : Int) (r : List A) : ev f28_X (lpc (cnOfU f28_LV) (f28_L r)) f28_c (K0U TT f28_rv) (enterU (.one (.i .i64)) a0 [.v (.int .i64 a1)]) = (f28_L r 2 (f28_s2 a1 0 a0)) := by kernel_rfl
theorem s28_ok (a0 : (List Int)) (a1 : Int) (v : (Int × (List Int))) (h : s28 a0 a1 = some v) : (f28_L (l28 v) 2 (f28_s2 a1 0 a0)) = some (l28 v) := by
  unfold s28 at h
  have go : ∀ r, sem (fun v => r = l28 v) ((f28_run2 (a1, 0, a0))) → (f28_L r 2 (f28_s2 a1 0 a0)) = some r := fun r h => f28_go2 r _ h
  exact go (l28 v) ⟨v, h, rfl⟩
noncomputable def u28 : UCon := fun e l rest => match e, l, rest with
  | (.one (.i .i64)), a0, [.v (.int .i64 a1)] => ⟨(Int × (List Int)), s28 a0 a1, fun r => .v (.int .i64 r.1), fun r => r.2⟩
  | _, _, _ => UCall.fail
theorem f28_sound : USound Try.prog 28 u28 := by
  refine sound_goodU f28_ctx f28_LV 2 Try.func28 (c := f28_c) (by kernel_rfl) (rv := f28_rv) (by kernel_rfl) (by kernel_rfl) (by kernel_rfl) (by kernel_rfl) fun e l rest => ?_
  unfold u28
  split
  · rename_i a0 a1; intro v h; exact ⟨rfl, (f28_top a0 a1 _).trans (s28_ok a0 a1 v h)⟩
  · intro v h; cases h

/-! ### function 66: loop.example/g01322/spec.l06Lost -/
noncomputable def f66_c : Code := match Try.f66.body with | some c => c | none => .skip
noncomputable def f66_X : Ctx := ⟨TT, phiOf [(81, c81)], noPsi⟩
def f66_LV : List (Nat × Keep) := [(3, ([0, 3, 4], [], []))]
def f66_rv : List ResultVar := [.tmp 2]
noncomputable def f66_L (r : List A) : Nat → AS → Option (List A) := L f66_X (cnOf f66_LV) f66_c (K0 TT f66_rv) r
theorem f66_ctx : CtxOK Try.prog f66_X := ctx_of tab mix ⟨⟨Try.call81, f81_sound⟩, trivial⟩
noncomputable def f66_s3 (x0 : Int) (x1 : Int) (x2 : Int) (x3 : (Nat → Int)) (x4 : (List Int)) : AS := ⟨[(0, .a (.ptr 0 [] (0))), (3, .a (.sl 1)), (4, .a (.v (.int .i64 x0)))], [(0, some ⟨false, .box (.rc [.v (.int .i8 x1), .v (.int .i8 x2), .fa 144 .u8 x3])⟩), (1, some ⟨true, .arr (.one (.i .i64)) x4⟩)], 2⟩
noncomputable def l66 (r : (List Int)) : List A := [.lst (.one (.i .i64)) r]
theorem f66_step3 (x0 : Int) (x1 : Int) (x2 : Int) (x3 : (Nat → Int)) (x4 : (List Int)) (r : List A) (h : (cond (decide (x0 < 144)) (cond (s81 x1 x2 x3 x0) (cond (inB x0 144) (cond ((x3 (Int.toNat x0)) == 0) (cond (fits ((List.length (x4 : List Int) + List.length ([x0] : List Int)) * 8)) (f66_L r 3 (f66_s3 (IntKind.wrap .i64 (x0 + 1)) x1 x2 x3 (x4 ++ [x0]))) none) (f66_L r 3 (f66_s3 (IntKind.wrap .i64 (x0 + 1)) x1 x2 x3 x4))) none) (f66_L r 3 (f66_s3 (IntKind.wrap .i64 (x0 + 1)) x1 x2 x3 x4))) (some [.lst (.one (.i .i64)) x4])) = some r) : f66_L r 3 (f66_s3 x0 x1 x2 x3 x4) = some r :=
  step_of' h (by kernel_rfl)
noncomputable def f66_n3 (x0 : Int) (x1 : Int) (x2 : Int) (x3 : (Nat → Int)) (x4 : (List Int)) : Option ((Int × Int × Int × (Nat → Int) × (List Int)) ⊕ (List Int)) := (cond (decide (x0 < 144)) (cond (s81 x1 x2 x3 x0) (cond (inB x0 144) (cond ((x3 (Int.toNat x0)) == 0) (cond (fits ((List.length (x4 : List Int) + List.length ([x0] : List Int)) * 8)) (some (Sum.inl ((IntKind.wrap .i64 (x0 + 1)), x1, x2, x3, (x4 ++ [x0])))) none) (some (Sum.inl ((IntKind.wrap .i64 (x0 + 1)), x1, x2, x3, x4)))) none) (some (Sum.inl ((IntKind.wrap .i64 (x0 + 1)), x1, x2, x3, x4)))) (some (Sum.inr x4)))
noncomputable def f66_run3 (x : (Int × Int × Int × (Nat → Int) × (List Int))) : Option (List Int) := iter (fun x => f66_n3 x.1 x.2.1 x.2.2.1 x.2.2.2.1 x.2.2.2.2) FU x
noncomputable def f66_G3 (r : List A) (x : (Int × Int × Int × (Nat → Int) × (List Int))) : Prop := f66_L r 3 (f66_s3 x.1 x.2.1 x.2.2.1 x.2.2.2.1 x.2.2.2.2) = some r
noncomputable def f66_S3 (r : List A) : (List Int) → Prop := fun v => r = l66 v
theorem f66_go3 (r : List A) : ∀ x, sem (f66_S3 r) (f66_run3 x) → f66_G3 r x :=
  fun x => iter_sound (step := fun x => f66_n3 x.1 x.2.1 x.2.2.1 x.2.2.2.1 x.2.2.2.2) (fun x h => by
    unfold f66_n3 at h
    exact f66_step3 x.1 x.2.1 x.2.2.1 x.2.2.2.1 x.2.2.2.2 r ((sem_cond h (fun h => (sem_cond h (fun h => (sem_cond h (fun h => (sem_cond h (fun h => (sem_cond h (fun h => sem_got h fun q => q) (fun h => sem_none h))) (fun h => sem_got h fun q => q))) (fun h => sem_none h))) (fun h => sem_got h fun q => q))) (fun h => sem_got h fun q => some_eq q)))) FU x
noncomputable def s66 (a0 : Int) (a1 : Int) (a2 : (Nat → Int)) : Option (List Int) := (f66_run3 (0, a0, a1, a2, []))
theorem f66_top (a0 : Int) (a1 : Int) (a2 : (Nat → Int)) (r : List A) : ev f66_X (lpc (cnOf f66_LV) (f66_L r)) f66_c (K0 TT f66_rv) (enter [.ref (.rc [.v (.int .i8 a0), .v (.int .i8 a1), .fa 144 .u8 a2])]) = (f66_L r 3 (f66_s3 0 a0 a1 a2 [])) := by kernel_rfl
theorem s66_ok (a0 : Int) (a1 : Int) (a2 : (Nat → Int)) (v : (List Int)) (h : s66 a0 a1 a2 = some v) : (f66_L (l66 v) 3 (f66_s3 0 a0 a1 a2 [])) = some (l66 v) := by
  unfold s66 at h
  have go : ∀ r, sem (fun v => r = l66 v) ((f66_run3 (0, a0, a1, a2, []))) → (f66_L r 3 (f66_s3 0 a0 a1 a2 [])) = some r := fun r h => f66_go3 r _ h
  exact go (l66 v) ⟨v, h, rfl⟩
noncomputable def c66 : List A → ACall
  | [.ref (.rc [.v (.int .i8 a0), .v (.int .i8 a1), .fa 144 .u8 a2])] => ⟨(List Int), s66 a0 a1 a2, fun r => .one (.lst (.one (.i .i64)) r)⟩
  | _ => ACall.fail
theorem f66_sound : Sound Try.prog 66 c66 := by
  refine sound_good f66_ctx f66_LV 1 Try.func66 (c := f66_c) (by kernel_rfl) (rv := f66_rv) (by kernel_rfl) (by kernel_rfl) (by kernel_rfl) (by kernel_rfl) fun rs => ?_
  unfold c66
  split
  · rename_i a0 a1 a2; intro v h; exact ⟨rfl, l66 v, rfl, (f66_top a0 a1 a2 _).trans (s66_ok a0 a1 a2 v h)⟩
  · intro v h; cases h

/-! ### function 25: loop.example/g01322/spec.LostCells -/
noncomputable def f25_c : Code := match Try.f25.body with | some c => c | none => .skip
noncomputable def f25_X : Ctx := ⟨TT, phiOf [(47, c47), (66, c66)], noPsi⟩
def f25_LV : List (Nat × Keep) := []
def f25_rv : List ResultVar := [.tmp 2, .tmp 3]
noncomputable def f25_L (r : List A) : Nat → AS → Option (List A) := L f25_X (cnOf f25_LV) f25_c (K0 TT f25_rv) r
theorem f25_ctx : CtxOK Try.prog f25_X := ctx_of tab mix ⟨⟨Try.call47, f47_sound⟩, ⟨Try.call66, f66_sound⟩, trivial⟩
noncomputable def s25 (a0 : Int) (a1 : Int) (a2 : (Nat → Int)) : Option ((List Int) × Int) := (cond (!(s47 a0 a1 a2)) (some ([], 1)) (Option.bind (s66 a0 a1 a2) fun r1 => (some (r1, 0))))
theorem f25_top (a0 : Int) (a1 : Int) (a2 : (Nat → Int)) (r : List A) : ev f25_X (lpc (cnOf f25_LV) (f25_L r)) f25_c (K0 TT f25_rv) (enter [.rc [.v (.int .i8 a0), .v (.int .i8 a1), .fa 144 .u8 a2]]) = (cond (!(s47 a0 a1 a2)) (some [.lst (.one (.i .i64)) [], .v (.int .i64 1)]) (Option.bind (s66 a0 a1 a2) fun r1 => (some [.lst (.one (.i .i64)) r1, .v (.int .i64 0)]))) := by kernel_rfl
noncomputable def l25 (r : ((List Int) × Int)) : List A := [.lst (.one (.i .i64)) r.1, .v (.int .i64 r.2)]
theorem s25_ok (a0 : Int) (a1 : Int) (a2 : (Nat → Int)) (v : ((List Int) × Int)) (h : s25 a0 a1 a2 = some v) : (cond (!(s47 a0 a1 a2)) (some [.lst (.one (.i .i64)) [], .v (.int .i64 1)]) (Option.bind (s66 a0 a1 a2) fun r1 => (some [.lst (.one (.i .i64)) r1, .v (.int .i64 0)]))) = some (l25 v) := by
  have e : (cond (!(s47 a0 a1 a2)) (some [.lst (.one (.i .i64)) [], .v (.int .i64 1)]) (Option.bind (s66 a0 a1 a2) fun r1 => (some [.lst (.one (.i .i64)) r1, .v (.int .i64 0)]))) = Option.map l25 (s25 a0 a1 a2) := by
    unfold s25
    exact (cond_app (Option.map l25) rfl (bind_app fun _ => rfl))
  rw [e, h]; rfl
noncomputable def c25 : List A → ACall
  | [.rc [.v (.int .i8 a0), .v (.int .i8 a1), .fa 144 .u8 a2]] => ⟨((List Int) × Int), s25 a0 a1 a2, fun r => .tup [.lst (.one (.i .i64)) r.1, .v (.int .i64 r.2)]⟩
  | _ => ACall.fail
theorem f25_sound : Sound Try.prog 25 c25 := by
  refine sound_good f25_ctx f25_LV 1 Try.func25 (c := f25_c) (by kernel_rfl) (rv := f25_rv) (by kernel_rfl) (by kernel_rfl) (by kernel_rfl) (by kernel_rfl) fun rs => ?_
  unfold c25
  split
  · rename_i a0 a1 a2; intro v h; exact ⟨rfl, l25 v, rfl, (f25_top a0 a1 a2 _).trans (s25_ok a0 a1 a2 v h)⟩
  · intro v h; cases h

/-! ### function 26: loop.example/g01322/impl.LostCells -/
noncomputable def f26_c : Code := match Try.f26.body with | some c => c | none => .skip
noncomputable def f26_X : Ctx := ⟨TT, phiOf [(53, c53), (67, c67)], noPsi⟩
def f26_LV : List (Nat × Keep) := [(5, ([1, 4, 12, 13, 14], [], []))]
def f26_rv : List ResultVar := [.tmp 2, .tmp 3]
noncomputable def f26_L (r : List A) : Nat → AS → Option (List A) := L f26_X (cnOf f26_LV) f26_c (K0 TT f26_rv) r
theorem f26_ctx : CtxOK Try.prog f26_X := ctx_of tab mix ⟨⟨Try.call53, f53_sound⟩, ⟨Try.call67, f67_sound⟩, trivial⟩
noncomputable def f26_s5 (x0 : Int) (x1 : Int) (x2 : Int) (x3 : Int) (x4 : (Nat → Int)) (x5 : (List Int)) (x6 : (List Int)) : AS := ⟨[(1, .a (.ptr 0 [] (0))), (4, .a (.sl 1)), (12, .a (.sl 2)), (13, .a (.v (.int .i64 x0))), (14, .a (.v (.int .i64 x1)))], [(0, some ⟨true, .box (.rc [.v (.int .i8 x2), .v (.int .i8 x3), .fa 144 .u8 x4])⟩), (1, some ⟨true, .arr (.one (.i .i64)) x5⟩), (2, some ⟨true, .arr (.one (.i .i64)) x6⟩)], 3⟩
noncomputable def l26 (r : ((List Int) × Int)) : List A := [.lst (.one (.i .i64)) r.1, .v (.int .i64 r.2)]
theorem f26_step5 (x0 : Int) (x1 : Int) (x2 : Int) (x3 : Int) (x4 : (Nat → Int)) (x5 : (List Int)) (x6 : (List Int)) (r : List A) (h : (cond (decide (x1 < x0)) (cond (inB x1 (List.length x6)) (cond (inB (List.getD x6 (Int.toNat x1) 0) 144) (cond ((x4 (Int.toNat (List.getD x6 (Int.toNat x1) 0))) == 0) (cond (fits ((List.length (x5 : List Int) + List.length ([(List.getD x6 (Int.toNat x1) 0)] : List Int)) * 8)) (f26_L r 5 (f26_s5 x0 (IntKind.wrap .i64 (x1 + 1)) x2 x3 x4 (x5 ++ [(List.getD x6 (Int.toNat x1) 0)]) x6)) none) (f26_L r 5 (f26_s5 x0 (IntKind.wrap .i64 (x1 + 1)) x2 x3 x4 x5 x6))) none) none) (some [.lst (.one (.i .i64)) x5, .v (.int .i64 0)])) = some r) : f26_L r 5 (f26_s5 x0 x1 x2 x3 x4 x5 x6) = some r :=
  step_of' h (by kernel_rfl)
noncomputable def f26_n5 (x0 : Int) (x1 : Int) (x2 : Int) (x3 : Int) (x4 : (Nat → Int)) (x5 : (List Int)) (x6 : (List Int)) : Option ((Int × Int × Int × Int × (Nat → Int) × (List Int) × (List Int)) ⊕ ((List Int) × Int)) := (cond (decide (x1 < x0)) (cond (inB x1 (List.length x6)) (cond (inB (List.getD x6 (Int.toNat x1) 0) 144) (cond ((x4 (Int.toNat (List.getD x6 (Int.toNat x1) 0))) == 0) (cond (fits ((List.length (x5 : List Int) + List.length ([(List.getD x6 (Int.toNat x1) 0)] : List Int)) * 8)) (some (Sum.inl (x0, (IntKind.wrap .i64 (x1 + 1)), x2, x3, x4, (x5 ++ [(List.getD x6 (Int.toNat x1) 0)]), x6))) none) (some (Sum.inl (x0, (IntKind.wrap .i64 (x1 + 1)), x2, x3, x4, x5, x6)))) none) none) (some (Sum.inr (x5, 0))))
noncomputable def f26_run5 (x : (Int × Int × Int × Int × (Nat → Int) × (List Int) × (List Int))) : Option ((List Int) × Int) := iter (fun x => f26_n5 x.1 x.2.1 x.2.2.1 x.2.2.2.1 x.2.2.2.2.1 x.2.2.2.2.2.1 x.2.2.2.2.2.2) FU x
noncomputable def f26_G5 (r : List A) (x : (Int × Int × Int × Int × (Nat → Int) × (List Int) × (List Int))) : Prop := f26_L r 5 (f26_s5 x.1 x.2.1 x.2.2.1 x.2.2.2.1 x.2.2.2.2.1 x.2.2.2.2.2.1 x.2.2.2.2.2.2) = some r
noncomputable def f26_S5 (r : List A) : ((List Int) × Int) → Prop := fun v => r = l26 v
theorem f26_go5 (r : List A) : ∀ x, sem (f26_S5 r) (f26_run5 x) → f26_G5 r x :=
  fun x => iter_sound (step := fun x => f26_n5 x.1 x.2.1 x.2.2.1 x.2.2.2.1 x.2.2.2.2.1 x.2.2.2.2.2.1 x.2.2.2.2.2.2) (fun x h => by
    unfold f26_n5 at h
    exact f26_step5 x.1 x.2.1 x.2.2.1 x.2.2.2.1 x.2.2.2.2.1 x.2.2.2.2.2.1 x.2.2.2.2.2.2 r ((sem_cond h (fun h => (sem_cond h (fun h => (sem_cond h (fun h => (sem_cond h (fun h => (sem_cond h (fun h => sem_got h fun q => q) (fun h => sem_none h))) (fun h => sem_got h fun q => q))) (fun h => sem_none h))) (fun h => sem_none h))) (fun h => sem_got h fun q => some_eq q)))) FU x
noncomputable def s26 (a0 : Int) (a1 : Int) (a2 : (Nat → Int)) : Option ((List Int) × Int) := (cond (!(s53 a0 a1 a2)) (some ([], 1)) (Option.bind (s67 a0 a1 a2) fun r1 => (f26_run5 (((List.length r1 : Nat) : Int), 0, a0, a1, a2, [], r1))))
theorem f26_top (a0 : Int) (a1 : Int) (a2 : (Nat → Int)) (r : List A) : ev f26_X (lpc (cnOf f26_LV) (f26_L r)) f26_c (K0 TT f26_rv) (enter [.rc [.v (.int .i8 a0), .v (.int .i8 a1), .fa 144 .u8 a2]]) = (cond (!(s53 a0 a1 a2)) (some [.lst (.one (.i .i64)) [], .v (.int .i64 1)]) (Option.bind (s67 a0 a1 a2) fun r1 => (f26_L r 5 (f26_s5 ((List.length r1 : Nat) : Int) 0 a0 a1 a2 [] r1)))) := by kernel_rfl
theorem s26_ok (a0 : Int) (a1 : Int) (a2 : (Nat → Int)) (v : ((List Int) × Int)) (h : s26 a0 a1 a2 = some v) : (cond (!(s53 a0 a1 a2)) (some [.lst (.one (.i .i64)) [], .v (.int .i64 1)]) (Option.bind (s67 a0 a1 a2) fun r1 => (f26_L (l26 v) 5 (f26_s5 ((List.length r1 : Nat) : Int) 0 a0 a1 a2 [] r1)))) = some (l26 v) := by
  unfold s26 at h
  have go : ∀ r, sem (fun v => r = l26 v) ((cond (!(s53 a0 a1 a2)) (some ([], 1)) (Option.bind (s67 a0 a1 a2) fun r1 => (f26_run5 (((List.length r1 : Nat) : Int), 0, a0, a1, a2, [], r1))))) → (cond (!(s53 a0 a1 a2)) (some [.lst (.one (.i .i64)) [], .v (.int .i64 1)]) (Option.bind (s67 a0 a1 a2) fun r1 => (f26_L r 5 (f26_s5 ((List.length r1 : Nat) : Int) 0 a0 a1 a2 [] r1)))) = some r := fun r h => (sem_cond h (fun h => sem_got h fun q => some_eq q) (fun h => (sem_bind h fun r1 h => f26_go5 r _ h)))
  exact go (l26 v) ⟨v, h, rfl⟩
noncomputable def c26 : List A → ACall
  | [.rc [.v (.int .i8 a0), .v (.int .i8 a1), .fa 144 .u8 a2]] => ⟨((List Int) × Int), s26 a0 a1 a2, fun r => .tup [.lst (.one (.i .i64)) r.1, .v (.int .i64 r.2)]⟩
  | _ => ACall.fail
theorem f26_sound : Sound Try.prog 26 c26 := by
  refine sound_good f26_ctx f26_LV 1 Try.func26 (c := f26_c) (by kernel_rfl) (rv := f26_rv) (by kernel_rfl) (by kernel_rfl) (by kernel_rfl) (by kernel_rfl) fun rs => ?_
  unfold c26
  split
  · rename_i a0 a1 a2; intro v h; exact ⟨rfl, l26 v, rfl, (f26_top a0 a1 a2 _).trans (s26_ok a0 a1 a2 v h)⟩
  · intro v h; cases h

/-! ### function 27: loop.example/g01322/laws.eqInt64S -/
noncomputable def f27_c : Code := match Try.f27.body with | some c => c | none => .skip
noncomputable def f27_X : Ctx := ⟨TT, phiOf [], noPsi⟩
def f27_LV : List (Nat × Keep) := [(4, ([0, 1, 5], [], []))]
def f27_rv : List ResultVar := [.tmp 4]
noncomputable def f27_L (r : List A) : Nat → AS → Option (List A) := L f27_X (cnOf f27_LV) f27_c (K0 TT f27_rv) r
theorem f27_ctx : CtxOK Try.prog f27_X := ctx_of tab mix trivial
noncomputable def f27_s4 (x0 : Int) (x1 : (List Int)) (x2 : (List Int)) : AS := ⟨[(0, .a (.sl 0)), (1, .a (.sl 1)), (5, .a (.v (.int .i64 x0)))], [(0, some ⟨false, .arr (.one (.i .i64)) x1⟩), (1, some ⟨false, .arr (.one (.i .i64)) x2⟩)], 2⟩
noncomputable def l27 (r : Bool) : List A := [.v (.bool r)]
theorem f27_step4 (x0 : Int) (x1 : (List Int)) (x2 : (List Int)) (r : List A) (h : (cond (decide (x0 < ((List.length x1 : Nat) : Int))) (cond (inB x0 (List.length x1)) (cond (inB x0 (List.length x2)) (cond ((List.getD x1 (Int.toNat x0) 0) != (List.getD x2 (Int.toNat x0) 0)) (some [.v (.bool false)]) (f27_L r 4 (f27_s4 (IntKind.wrap .i64 (x0 + 1)) x1 x2))) none) none) (some [.v (.bool true)])) = some r) : f27_L r 4 (f27_s4 x0 x1 x2) = some r :=
  step_of' h (by kernel_rfl)
noncomputable def f27_n4 (x0 : Int) (x1 : (List Int)) (x2 : (List Int)) : Option ((Int × (List Int) × (List Int)) ⊕ Bool) := (cond (decide (x0 < ((List.length x1 : Nat) : Int))) (cond (inB x0 (List.length x1)) (cond (inB x0 (List.length x2)) (cond ((List.getD x1 (Int.toNat x0) 0) != (List.getD x2 (Int.toNat x0) 0)) (some (Sum.inr false)) (some (Sum.inl ((IntKind.wrap .i64 (x0 + 1)), x1, x2)))) none) none) (some (Sum.inr true)))
noncomputable def f27_run4 (x : (Int × (List Int) × (List Int))) : Option Bool := iter (fun x => f27_n4 x.1 x.2.1 x.2.2) FU x
noncomputable def f27_G4 (r : List A) (x : (Int × (List Int) × (List Int))) : Prop := f27_L r 4 (f27_s4 x.1 x.2.1 x.2.2) = some r
noncomputable def f27_S4 (r : List A) : Bool → Prop := fun v => r = l27 v
theorem f27_go4 (r : List A) : ∀ x, sem (f27_S4 r) (f27_run4 x) → f27_G4 r x :=
  fun x => iter_sound (step := fun x => f27_n4 x.1 x.2.1 x.2.2) (fun x h => by
    unfold f27_n4 at h
    exact f27_step4 x.1 x.2.1 x.2.2 r ((sem_cond h (fun h => (sem_cond h (fun h => (sem_cond h (fun h => (sem_cond h (fun h => sem_got h fun q => some_eq q) (fun h => sem_got h fun q => q))) (fun h => sem_none h))) (fun h => sem_none h))) (fun h => sem_got h fun q => some_eq q)))) FU x
noncomputable def s27 (a0 : (List Int)) (a1 : (List Int)) : Option Bool := (cond (((List.length a0 : Nat) : Int) != ((List.length a1 : Nat) : Int)) (some false) (f27_run4 (0, a0, a1)))
theorem f27_top (a0 : (List Int)) (a1 : (List Int)) (r : List A) : ev f27_X (lpc (cnOf f27_LV) (f27_L r)) f27_c (K0 TT f27_rv) (enter [.lst (.one (.i .i64)) a0, .lst (.one (.i .i64)) a1]) = (cond (((List.length a0 : Nat) : Int) != ((List.length a1 : Nat) : Int)) (some [.v (.bool false)]) (f27_L r 4 (f27_s4 0 a0 a1))) := by kernel_rfl
theorem s27_ok (a0 : (List Int)) (a1 : (List Int)) (v : Bool) (h : s27 a0 a1 = some v) : (cond (((List.length a0 : Nat) : Int) != ((List.length a1 : Nat) : Int)) (some [.v (.bool false)]) (f27_L (l27 v) 4 (f27_s4 0 a0 a1))) = some (l27 v) := by
  unfold s27 at h
  have go : ∀ r, sem (fun v => r = l27 v) ((cond (((List.length a0 : Nat) : Int) != ((List.length a1 : Nat) : Int)) (some false) (f27_run4 (0, a0, a1)))) → (cond (((List.length a0 : Nat) : Int) != ((List.length a1 : Nat) : Int)) (some [.v (.bool false)]) (f27_L r 4 (f27_s4 0 a0 a1))) = some r := fun r h => (sem_cond h (fun h => sem_got h fun q => some_eq q) (fun h => f27_go4 r _ h))
  exact go (l27 v) ⟨v, h, rfl⟩
noncomputable def c27 : List A → ACall
  | [.lst (.one (.i .i64)) a0, .lst (.one (.i .i64)) a1] => ⟨Bool, s27 a0 a1, fun r => .one (.v (.bool r))⟩
  | _ => ACall.fail
theorem f27_sound : Sound Try.prog 27 c27 := by
  refine sound_good f27_ctx f27_LV 2 Try.func27 (c := f27_c) (by kernel_rfl) (rv := f27_rv) (by kernel_rfl) (by kernel_rfl) (by kernel_rfl) (by kernel_rfl) fun rs => ?_
  unfold c27
  split
  · rename_i a0 a1; intro v h; exact ⟨rfl, l27 v, rfl, (f27_top a0 a1 _).trans (s27_ok a0 a1 v h)⟩
  · intro v h; cases h

/-! ### function 29: loop.example/g01322/laws.heldInt64S -/
noncomputable def f29_c : Code := match Try.f29.body with | some c => c | none => .skip
noncomputable def f29_X : Ctx := ⟨TT, phiOf [], noPsi⟩
def f29_LV : List (Nat × Keep) := [(2, ([0, 1, 5], [], []))]
def f29_rv : List ResultVar := [.tmp 4]
noncomputable def f29_L (r : List A) : Nat → AS → Option (List A) := L f29_X (cnOf f29_LV) f29_c (K0 TT f29_rv) r
theorem f29_ctx : CtxOK Try.prog f29_X := ctx_of tab mix trivial
noncomputable def f29_s2 (x0 : Int) (x1 : Int) (x2 : (List Int)) : AS := ⟨[(0, .a (.sl 0)), (1, .a (.v (.int .i64 x0))), (5, .a (.v (.int .i64 x1)))], [(0, some ⟨false, .arr (.one (.i .i64)) x2⟩)], 1⟩
noncomputable def l29 (r : Int) : List A := [.v (.int .i64 r)]
theorem f29_step2 (x0 : Int) (x1 : Int) (x2 : (List Int)) (r : List A) (h : (cond (decide (x1 < ((List.length x2 : Nat) : Int))) (cond (inB x1 (List.length x2)) (cond ((List.getD x2 (Int.toNat x1) 0) != x0) (some [.v (.int .i64 (-1))]) (f29_L r 2 (f29_s2 (IntKind.wrap .i64 (x0 + 1)) (IntKind.wrap .i64 (x1 + 1)) x2))) none) (some [.v (.int .i64 x0)])) = some r) : f29_L r 2 (f29_s2 x0 x1 x2) = some r :=
  step_of' h (by kernel_rfl)
noncomputable def f29_n2 (x0 : Int) (x1 : Int) (x2 : (List Int)) : Option ((Int × Int × (List Int)) ⊕ Int) := (cond (decide (x1 < ((List.length x2 : Nat) : Int))) (cond (inB x1 (List.length x2)) (cond ((List.getD x2 (Int.toNat x1) 0) != x0) (some (Sum.inr (-1))) (some (Sum.inl ((IntKind.wrap .i64 (x0 + 1)), (IntKind.wrap .i64 (x1 + 1)), x2)))) none) (some (Sum.inr x0)))
noncomputable def f29_run2 (x : (Int × Int × (List Int))) : Option Int := iter (fun x => f29_n2 x.1 x.2.1 x.2.2) FU x
noncomputable def f29_G2 (r : List A) (x : (Int × Int × (List Int))) : Prop := f29_L r 2 (f29_s2 x.1 x.2.1 x.2.2) = some r
noncomputable def f29_S2 (r : List A) : Int → Prop := fun v => r = l29 v
theorem f29_go2 (r : List A) : ∀ x, sem (f29_S2 r) (f29_run2 x) → f29_G2 r x :=
  fun x => iter_sound (step := fun x => f29_n2 x.1 x.2.1 x.2.2) (fun x h => by
    unfold f29_n2 at h
    exact f29_step2 x.1 x.2.1 x.2.2 r ((sem_cond h (fun h => (sem_cond h (fun h => (sem_cond h (fun h => sem_got h fun q => some_eq q) (fun h => sem_got h fun q => q))) (fun h => sem_none h))) (fun h => sem_got h fun q => some_eq q)))) FU x
noncomputable def s29 (a0 : (List Int)) (a1 : Int) : Option Int := (f29_run2 (a1, 0, a0))
theorem f29_top (a0 : (List Int)) (a1 : Int) (r : List A) : ev f29_X (lpc (cnOf f29_LV) (f29_L r)) f29_c (K0 TT f29_rv) (enter [.lst (.one (.i .i64)) a0, .v (.int .i64 a1)]) = (f29_L r 2 (f29_s2 a1 0 a0)) := by kernel_rfl
theorem s29_ok (a0 : (List Int)) (a1 : Int) (v : Int) (h : s29 a0 a1 = some v) : (f29_L (l29 v) 2 (f29_s2 a1 0 a0)) = some (l29 v) := by
  unfold s29 at h
  have go : ∀ r, sem (fun v => r = l29 v) ((f29_run2 (a1, 0, a0))) → (f29_L r 2 (f29_s2 a1 0 a0)) = some r := fun r h => f29_go2 r _ h
  exact go (l29 v) ⟨v, h, rfl⟩
noncomputable def c29 : List A → ACall
  | [.lst (.one (.i .i64)) a0, .v (.int .i64 a1)] => ⟨Int, s29 a0 a1, fun r => .one (.v (.int .i64 r))⟩
  | _ => ACall.fail
theorem f29_sound : Sound Try.prog 29 c29 := by
  refine sound_good f29_ctx f29_LV 2 Try.func29 (c := f29_c) (by kernel_rfl) (rv := f29_rv) (by kernel_rfl) (by kernel_rfl) (by kernel_rfl) (by kernel_rfl) fun rs => ?_
  unfold c29
  split
  · rename_i a0 a1; intro v h; exact ⟨rfl, l29 v, rfl, (f29_top a0 a1 _).trans (s29_ok a0 a1 v h)⟩
  · intro v h; cases h

/-! ### function 6: loop.example/g01322/laws.FnExactLostCells -/
noncomputable def f6_c : Code := match Try.f6.body with | some c => c | none => .skip
noncomputable def f6_X : Ctx := ⟨TT, phiOf [(16, c16), (25, c25), (26, c26), (27, c27), (29, c29)], (psiOf [(28, u28)])⟩
def f6_LV : List (Nat × Keep) := []
def f6_rv : List ResultVar := [.tmp 2]
noncomputable def f6_L (r : List A) : Nat → AS → Option (List A) := L f6_X (cnOf f6_LV) f6_c (K0 TT f6_rv) r
theorem f6_ctx : CtxOK Try.prog f6_X := ctx_ofU tab mix (l := [(16, c16), (25, c25), (26, c26), (27, c27), (29, c29)]) ⟨⟨Try.call16, f16_sound⟩, ⟨Try.call25, f25_sound⟩, ⟨Try.call26, f26_sound⟩, ⟨Try.call27, f27_sound⟩, ⟨Try.call29, f29_sound⟩, trivial⟩ (psi_ok (l := [(28, u28)]) ⟨⟨Try.call28, f28_sound⟩, trivial⟩)
noncomputable def s6 (a0 : Int) (a1 : Int) (a2 : (Nat → Int)) : Option Bool := (Option.bind (s25 (s16 a0 a1 a2).1 (s16 a0 a1 a2).2.1 (s16 a0 a1 a2).2.2) fun r1 => (Option.bind (s26 (s16 a0 a1 a2).1 (s16 a0 a1 a2).2.1 (s16 a0 a1 a2).2.2) fun r2 => (Option.bind (s27 (r2.1) (r1.1)) fun r3 => (cond (!r3) (some false) (cond (r2.2 != r1.2) (some false) (Option.bind (s28 (r2.1) 1) fun r4 => (Option.bind (s29 (r4.2) 1) fun r5 => (cond (decide (r5 < 0)) (some false) (cond (r5 != r4.1) (some false) (Option.bind (s26 (s16 a0 a1 a2).1 (s16 a0 a1 a2).2.1 (s16 a0 a1 a2).2.2) fun r6 => (Option.bind (s27 (r6.1) (r1.1)) fun r7 => (cond (!r7) (some false) (cond (r6.2 != r1.2) (some false) (Option.bind (s29 (r4.2) 1) fun r8 => (cond (decide (r8 < 0)) (some false) (cond (r8 != r4.1) (some false) (some true)))))))))))))))))
theorem f6_top (a0 : Int) (a1 : Int) (a2 : (Nat → Int)) (r : List A) : ev f6_X (lpc (cnOf f6_LV) (f6_L r)) f6_c (K0 TT f6_rv) (enter [.rc [.v (.int .i8 a0), .v (.int .i8 a1), .fa 144 .u8 a2]]) = (Option.bind (s25 (s16 a0 a1 a2).1 (s16 a0 a1 a2).2.1 (s16 a0 a1 a2).2.2) fun r1 => (Option.bind (s26 (s16 a0 a1 a2).1 (s16 a0 a1 a2).2.1 (s16 a0 a1 a2).2.2) fun r2 => (Option.bind (s27 (r2.1) (r1.1)) fun r3 => (cond (!r3) (some [.v (.bool false)]) (cond (r2.2 != r1.2) (some [.v (.bool false)]) (Option.bind (s28 (r2.1) 1) fun r4 => (Option.bind (s29 (r4.2) 1) fun r5 => (cond (decide (r5 < 0)) (some [.v (.bool false)]) (cond (r5 != r4.1) (some [.v (.bool false)]) (Option.bind (s26 (s16 a0 a1 a2).1 (s16 a0 a1 a2).2.1 (s16 a0 a1 a2).2.2) fun r6 => (Option.bind (s27 (r6.1) (r1.1)) fun r7 => (cond (!r7) (some [.v (.bool false)]) (cond (r6.2 != r1.2) (some [.v (.bool false)]) (Option.bind (s29 (r4.2) 1) fun r8 => (cond (decide (r8 < 0)) (some [.v (.bool false)]) (cond (r8 != r4.1) (some [.v (.bool false)]) (some [.v (.bool true)]))))))))))))))))) := by kernel_rfl
noncomputable def l6 (r : Bool) : List A := [.v (.bool r)]
theorem s6_ok (a0 : Int) (a1 : Int) (a2 : (Nat → Int)) (v : Bool) (h : s6 a0 a1 a2 = some v) : (Option.bind (s25 (s16 a0 a1 a2).1 (s16 a0 a1 a2).2.1 (s16 a0 a1 a2).2.2) fun r1 => (Option.bind (s26 (s16 a0 a1 a2).1 (s16 a0 a1 a2).2.1 (s16 a0 a1 a2).2.2) fun r2 => (Option.bind (s27 (r2.1) (r1.1)) fun r3 => (cond (!r3) (some [.v (.bool false)]) (cond (r2.2 != r1.2) (some [.v (.bool false)]) (Option.bind (s28 (r2.1) 1) fun r4 => (Option.bind (s29 (r4.2) 1) fun r5 => (cond (decide (r5 < 0)) (some [.v (.bool false)]) (cond (r5 != r4.1) (some [.v (.bool false)]) (Option.bind (s26 (s16 a0 a1 a2).1 (s16 a0 a1 a2).2.1 (s16 a0 a1 a2).2.2) fun r6 => (Option.bind (s27 (r6.1) (r1.1)) fun r7 => (cond (!r7) (some [.v (.bool false)]) (cond (r6.2 != r1.2) (some [.v (.bool false)]) (Option.bind (s29 (r4.2) 1) fun r8 => (cond (decide (r8 < 0)) (some [.v (.bool false)]) (cond (r8 != r4.1) (some [.v (.bool false)]) (some [.v (.bool true)]))))))))))))))))) = some (l6 v) := by
  have e : (Option.bind (s25 (s16 a0 a1 a2).1 (s16 a0 a1 a2).2.1 (s16 a0 a1 a2).2.2) fun r1 => (Option.bind (s26 (s16 a0 a1 a2).1 (s16 a0 a1 a2).2.1 (s16 a0 a1 a2).2.2) fun r2 => (Option.bind (s27 (r2.1) (r1.1)) fun r3 => (cond (!r3) (some [.v (.bool false)]) (cond (r2.2 != r1.2) (some [.v (.bool false)]) (Option.bind (s28 (r2.1) 1) fun r4 => (Option.bind (s29 (r4.2) 1) fun r5 => (cond (decide (r5 < 0)) (some [.v (.bool false)]) (cond (r5 != r4.1) (some [.v (.bool false)]) (Option.bind (s26 (s16 a0 a1 a2).1 (s16 a0 a1 a2).2.1 (s16 a0 a1 a2).2.2) fun r6 => (Option.bind (s27 (r6.1) (r1.1)) fun r7 => (cond (!r7) (some [.v (.bool false)]) (cond (r6.2 != r1.2) (some [.v (.bool false)]) (Option.bind (s29 (r4.2) 1) fun r8 => (cond (decide (r8 < 0)) (some [.v (.bool false)]) (cond (r8 != r4.1) (some [.v (.bool false)]) (some [.v (.bool true)]))))))))))))))))) = Option.map l6 (s6 a0 a1 a2) := by
    unfold s6
    exact (bind_app fun _ => (bind_app fun _ => (bind_app fun _ => (cond_app (Option.map l6) rfl (cond_app (Option.map l6) rfl (bind_app fun _ => (bind_app fun _ => (cond_app (Option.map l6) rfl (cond_app (Option.map l6) rfl (bind_app fun _ => (bind_app fun _ => (cond_app (Option.map l6) rfl (cond_app (Option.map l6) rfl (bind_app fun _ => (cond_app (Option.map l6) rfl (cond_app (Option.map l6) rfl rfl))))))))))))))))
  rw [e, h]; rfl
noncomputable def c6 : List A → ACall
  | [.rc [.v (.int .i8 a0), .v (.int .i8 a1), .fa 144 .u8 a2]] => ⟨Bool, s6 a0 a1 a2, fun r => .one (.v (.bool r))⟩
  | _ => ACall.fail
theorem f6_sound : Sound Try.prog 6 c6 := by
  refine sound_good f6_ctx f6_LV 1 Try.func6 (c := f6_c) (by kernel_rfl) (rv := f6_rv) (by kernel_rfl) (by kernel_rfl) (by kernel_rfl) (by kernel_rfl) fun rs => ?_
  unfold c6
  split
  · rename_i a0 a1 a2; intro v h; exact ⟨rfl, l6 v, rfl, (f6_top a0 a1 a2 _).trans (s6_ok a0 a1 a2 v h)⟩
  · intro v h; cases h

/-! ### function 45: loop.example/g01322/spec.WrongStones -/
noncomputable def f45_c : Code := match Try.f45.body with | some c => c | none => .skip
noncomputable def f45_X : Ctx := ⟨TT, phiOf [(71, c71)], noPsi⟩
def f45_LV : List (Nat × Keep) := [(6, ([2, 3, 6, 8], [], []))]
def f45_rv : List ResultVar := [.tmp 4, .tmp 5]
noncomputable def f45_L (r : List A) : Nat → AS → Option (List A) := L f45_X (cnOf f45_LV) f45_c (K0 TT f45_rv) r
theorem f45_ctx : CtxOK Try.prog f45_X := ctx_of tab mix ⟨⟨Try.call71, f71_sound⟩, trivial⟩
noncomputable def f45_s6 (x0 : Int) (x1 : Int) (x2 : Int) (x3 : (Nat → Int)) (x4 : Int) (x5 : Int) (x6 : (Nat → Int)) (x7 : (List Int)) : AS := ⟨[(2, .a (.ptr 0 [] (0))), (3, .a (.ptr 1 [] (0))), (6, .a (.sl 2)), (8, .a (.v (.int .i64 x0)))], [(0, some ⟨true, .box (.rc [.v (.int .i8 x1), .v (.int .i8 x2), .fa 144 .u8 x3])⟩), (1, some ⟨true, .box (.rc [.v (.int .i8 x4), .v (.int .i8 x5), .fa 144 .u8 x6])⟩), (2, some ⟨true, .arr (.one (.i .i64)) x7⟩)], 3⟩
noncomputable def l45 (r : ((List Int) × Int)) : List A := [.lst (.one (.i .i64)) r.1, .v (.int .i64 r.2)]
theorem f45_step6 (x0 : Int) (x1 : Int) (x2 : Int) (x3 : (Nat → Int)) (x4 : Int) (x5 : Int) (x6 : (Nat → Int)) (x7 : (List Int)) (r : List A) (h : (cond (decide (x0 < 144)) (cond (inB x0 144) (cond ((x3 (Int.toNat x0)) != 0) (cond (inB x0 144) (cond (inB x0 144) (cond ((x3 (Int.toNat x0)) != (x6 (Int.toNat x0))) (cond (fits ((List.length (x7 : List Int) + List.length ([x0] : List Int)) * 8)) (f45_L r 6 (f45_s6 (IntKind.wrap .i64 (x0 + 1)) x1 x2 x3 x4 x5 x6 (x7 ++ [x0]))) none) (f45_L r 6 (f45_s6 (IntKind.wrap .i64 (x0 + 1)) x1 x2 x3 x4 x5 x6 x7))) none) none) (f45_L r 6 (f45_s6 (IntKind.wrap .i64 (x0 + 1)) x1 x2 x3 x4 x5 x6 x7))) none) (some [.lst (.one (.i .i64)) x7, .v (.int .i64 0)])) = some r) : f45_L r 6 (f45_s6 x0 x1 x2 x3 x4 x5 x6 x7) = some r :=
  step_of' h (by kernel_rfl)
noncomputable def f45_n6 (x0 : Int) (x1 : Int) (x2 : Int) (x3 : (Nat → Int)) (x4 : Int) (x5 : Int) (x6 : (Nat → Int)) (x7 : (List Int)) : Option ((Int × Int × Int × (Nat → Int) × Int × Int × (Nat → Int) × (List Int)) ⊕ ((List Int) × Int)) := (cond (decide (x0 < 144)) (cond (inB x0 144) (cond ((x3 (Int.toNat x0)) != 0) (cond (inB x0 144) (cond (inB x0 144) (cond ((x3 (Int.toNat x0)) != (x6 (Int.toNat x0))) (cond (fits ((List.length (x7 : List Int) + List.length ([x0] : List Int)) * 8)) (some (Sum.inl ((IntKind.wrap .i64 (x0 + 1)), x1, x2, x3, x4, x5, x6, (x7 ++ [x0])))) none) (some (Sum.inl ((IntKind.wrap .i64 (x0 + 1)), x1, x2, x3, x4, x5, x6, x7)))) none) none) (some (Sum.inl ((IntKind.wrap .i64 (x0 + 1)), x1, x2, x3, x4, x5, x6, x7)))) none) (some (Sum.inr (x7, 0))))
noncomputable def f45_run6 (x : (Int × Int × Int × (Nat → Int) × Int × Int × (Nat → Int) × (List Int))) : Option ((List Int) × Int) := iter (fun x => f45_n6 x.1 x.2.1 x.2.2.1 x.2.2.2.1 x.2.2.2.2.1 x.2.2.2.2.2.1 x.2.2.2.2.2.2.1 x.2.2.2.2.2.2.2) FU x
noncomputable def f45_G6 (r : List A) (x : (Int × Int × Int × (Nat → Int) × Int × Int × (Nat → Int) × (List Int))) : Prop := f45_L r 6 (f45_s6 x.1 x.2.1 x.2.2.1 x.2.2.2.1 x.2.2.2.2.1 x.2.2.2.2.2.1 x.2.2.2.2.2.2.1 x.2.2.2.2.2.2.2) = some r
noncomputable def f45_S6 (r : List A) : ((List Int) × Int) → Prop := fun v => r = l45 v
theorem f45_go6 (r : List A) : ∀ x, sem (f45_S6 r) (f45_run6 x) → f45_G6 r x :=
  fun x => iter_sound (step := fun x => f45_n6 x.1 x.2.1 x.2.2.1 x.2.2.2.1 x.2.2.2.2.1 x.2.2.2.2.2.1 x.2.2.2.2.2.2.1 x.2.2.2.2.2.2.2) (fun x h => by
    unfold f45_n6 at h
    exact f45_step6 x.1 x.2.1 x.2.2.1 x.2.2.2.1 x.2.2.2.2.1 x.2.2.2.2.2.1 x.2.2.2.2.2.2.1 x.2.2.2.2.2.2.2 r ((sem_cond h (fun h => (sem_cond h (fun h => (sem_cond h (fun h => (sem_cond h (fun h => (sem_cond h (fun h => (sem_cond h (fun h => (sem_cond h (fun h => sem_got h fun q => q) (fun h => sem_none h))) (fun h => sem_got h fun q => q))) (fun h => sem_none h))) (fun h => sem_none h))) (fun h => sem_got h fun q => q))) (fun h => sem_none h))) (fun h => sem_got h fun q => some_eq q)))) FU x
noncomputable def s45 (a0 : Int) (a1 : Int) (a2 : (Nat → Int)) (a3 : Int) (a4 : Int) (a5 : (Nat → Int)) : Option ((List Int) × Int) := (Option.bind (s71 [(a0, a1, a2), (a3, a4, a5)]) fun r1 => (cond (r1 != 0) (some ([], r1)) (f45_run6 (0, a0, a1, a2, a3, a4, a5, []))))
theorem f45_top (a0 : Int) (a1 : Int) (a2 : (Nat → Int)) (a3 : Int) (a4 : Int) (a5 : (Nat → Int)) (r : List A) : ev f45_X (lpc (cnOf f45_LV) (f45_L r)) f45_c (K0 TT f45_rv) (enter [.rc [.v (.int .i8 a0), .v (.int .i8 a1), .fa 144 .u8 a2], .rc [.v (.int .i8 a3), .v (.int .i8 a4), .fa 144 .u8 a5]]) = (Option.bind (s71 [(a0, a1, a2), (a3, a4, a5)]) fun r1 => (cond (r1 != 0) (some [.lst (.one (.i .i64)) [], .v (.int .i64 r1)]) (f45_L r 6 (f45_s6 0 a0 a1 a2 a3 a4 a5 [])))) := by kernel_rfl
theorem s45_ok (a0 : Int) (a1 : Int) (a2 : (Nat → Int)) (a3 : Int) (a4 : Int) (a5 : (Nat → Int)) (v : ((List Int) × Int)) (h : s45 a0 a1 a2 a3 a4 a5 = some v) : (Option.bind (s71 [(a0, a1, a2), (a3, a4, a5)]) fun r1 => (cond (r1 != 0) (some [.lst (.one (.i .i64)) [], .v (.int .i64 r1)]) (f45_L (l45 v) 6 (f45_s6 0 a0 a1 a2 a3 a4 a5 [])))) = some (l45 v) := by
  unfold s45 at h
  have go : ∀ r, sem (fun v => r = l45 v) ((Option.bind (s71 [(a0, a1, a2), (a3, a4, a5)]) fun r1 => (cond (r1 != 0) (some ([], r1)) (f45_run6 (0, a0, a1, a2, a3, a4, a5, []))))) → (Option.bind (s71 [(a0, a1, a2), (a3, a4, a5)]) fun r1 => (cond (r1 != 0) (some [.lst (.one (.i .i64)) [], .v (.int .i64 r1)]) (f45_L r 6 (f45_s6 0 a0 a1 a2 a3 a4 a5 [])))) = some r := fun r h => (sem_bind h fun r1 h => (sem_cond h (fun h => sem_got h fun q => some_eq q) (fun h => f45_go6 r _ h)))
  exact go (l45 v) ⟨v, h, rfl⟩
noncomputable def c45 : List A → ACall
  | [.rc [.v (.int .i8 a0), .v (.int .i8 a1), .fa 144 .u8 a2], .rc [.v (.int .i8 a3), .v (.int .i8 a4), .fa 144 .u8 a5]] => ⟨((List Int) × Int), s45 a0 a1 a2 a3 a4 a5, fun r => .tup [.lst (.one (.i .i64)) r.1, .v (.int .i64 r.2)]⟩
  | _ => ACall.fail
theorem f45_sound : Sound Try.prog 45 c45 := by
  refine sound_good f45_ctx f45_LV 2 Try.func45 (c := f45_c) (by kernel_rfl) (rv := f45_rv) (by kernel_rfl) (by kernel_rfl) (by kernel_rfl) (by kernel_rfl) fun rs => ?_
  unfold c45
  split
  · rename_i a0 a1 a2 a3 a4 a5; intro v h; exact ⟨rfl, l45 v, rfl, (f45_top a0 a1 a2 a3 a4 a5 _).trans (s45_ok a0 a1 a2 a3 a4 a5 v h)⟩
  · intro v h; cases h

/-! ### function 46: loop.example/g01322/impl.WrongStones -/
noncomputable def f46_c : Code := match Try.f46.body with | some c => c | none => .skip
noncomputable def f46_X : Ctx := ⟨TT, phiOf [(72, c72)], noPsi⟩
def f46_LV : List (Nat × Keep) := [(6, ([3, 7, 19, 20], [], []))]
def f46_rv : List ResultVar := [.tmp 4, .tmp 5]
noncomputable def f46_L (r : List A) : Nat → AS → Option (List A) := L f46_X (cnOf f46_LV) f46_c (K0 TT f46_rv) r
theorem f46_ctx : CtxOK Try.prog f46_X := ctx_of tab mix ⟨⟨Try.call72, f72_sound⟩, trivial⟩
noncomputable def f46_s6 (x0 : (Nat → Int)) (x1 : Int) (x2 : Int) (x3 : Int) (x4 : (Nat → Int)) (x5 : (List Int)) : AS := ⟨[(3, .a (.ptr 0 [] (0))), (7, .a (.sl 1)), (19, .a (.fa 144 .u8 x0)), (20, .a (.v (.int .i64 x1)))], [(0, some ⟨true, .box (.rc [.v (.int .i8 x2), .v (.int .i8 x3), .fa 144 .u8 x4])⟩), (1, some ⟨true, .arr (.one (.i .i64)) x5⟩)], 2⟩
noncomputable def l46 (r : ((List Int) × Int)) : List A := [.lst (.one (.i .i64)) r.1, .v (.int .i64 r.2)]
theorem f46_step6 (x0 : (Nat → Int)) (x1 : Int) (x2 : Int) (x3 : Int) (x4 : (Nat → Int)) (x5 : (List Int)) (r : List A) (h : (cond (decide (x1 < 144)) (cond (inB x1 144) (cond ((x0 (Int.toNat x1)) != 0) (cond (inB x1 144) (cond ((x4 (Int.toNat x1)) != (x0 (Int.toNat x1))) (cond (fits ((List.length (x5 : List Int) + List.length ([x1] : List Int)) * 8)) (f46_L r 6 (f46_s6 x0 (IntKind.wrap .i64 (x1 + 1)) x2 x3 x4 (x5 ++ [x1]))) none) (f46_L r 6 (f46_s6 x0 (IntKind.wrap .i64 (x1 + 1)) x2 x3 x4 x5))) none) (f46_L r 6 (f46_s6 x0 (IntKind.wrap .i64 (x1 + 1)) x2 x3 x4 x5))) none) (some [.lst (.one (.i .i64)) x5, .v (.int .i64 0)])) = some r) : f46_L r 6 (f46_s6 x0 x1 x2 x3 x4 x5) = some r :=
  step_of' h (by kernel_rfl)
noncomputable def f46_n6 (x0 : (Nat → Int)) (x1 : Int) (x2 : Int) (x3 : Int) (x4 : (Nat → Int)) (x5 : (List Int)) : Option (((Nat → Int) × Int × Int × Int × (Nat → Int) × (List Int)) ⊕ ((List Int) × Int)) := (cond (decide (x1 < 144)) (cond (inB x1 144) (cond ((x0 (Int.toNat x1)) != 0) (cond (inB x1 144) (cond ((x4 (Int.toNat x1)) != (x0 (Int.toNat x1))) (cond (fits ((List.length (x5 : List Int) + List.length ([x1] : List Int)) * 8)) (some (Sum.inl (x0, (IntKind.wrap .i64 (x1 + 1)), x2, x3, x4, (x5 ++ [x1])))) none) (some (Sum.inl (x0, (IntKind.wrap .i64 (x1 + 1)), x2, x3, x4, x5)))) none) (some (Sum.inl (x0, (IntKind.wrap .i64 (x1 + 1)), x2, x3, x4, x5)))) none) (some (Sum.inr (x5, 0))))
noncomputable def f46_run6 (x : ((Nat → Int) × Int × Int × Int × (Nat → Int) × (List Int))) : Option ((List Int) × Int) := iter (fun x => f46_n6 x.1 x.2.1 x.2.2.1 x.2.2.2.1 x.2.2.2.2.1 x.2.2.2.2.2) FU x
noncomputable def f46_G6 (r : List A) (x : ((Nat → Int) × Int × Int × Int × (Nat → Int) × (List Int))) : Prop := f46_L r 6 (f46_s6 x.1 x.2.1 x.2.2.1 x.2.2.2.1 x.2.2.2.2.1 x.2.2.2.2.2) = some r
noncomputable def f46_S6 (r : List A) : ((List Int) × Int) → Prop := fun v => r = l46 v
theorem f46_go6 (r : List A) : ∀ x, sem (f46_S6 r) (f46_run6 x) → f46_G6 r x :=
  fun x => iter_sound (step := fun x => f46_n6 x.1 x.2.1 x.2.2.1 x.2.2.2.1 x.2.2.2.2.1 x.2.2.2.2.2) (fun x h => by
    unfold f46_n6 at h
    exact f46_step6 x.1 x.2.1 x.2.2.1 x.2.2.2.1 x.2.2.2.2.1 x.2.2.2.2.2 r ((sem_cond h (fun h => (sem_cond h (fun h => (sem_cond h (fun h => (sem_cond h (fun h => (sem_cond h (fun h => (sem_cond h (fun h => sem_got h fun q => q) (fun h => sem_none h))) (fun h => sem_got h fun q => q))) (fun h => sem_none h))) (fun h => sem_got h fun q => q))) (fun h => sem_none h))) (fun h => sem_got h fun q => some_eq q)))) FU x
noncomputable def s46 (a0 : Int) (a1 : Int) (a2 : (Nat → Int)) (a3 : Int) (a4 : Int) (a5 : (Nat → Int)) : Option ((List Int) × Int) := (Option.bind (s72 [(a0, a1, a2), (a3, a4, a5)]) fun r1 => (cond (r1 != 0) (some ([], r1)) (f46_run6 (a2, 0, a3, a4, a5, []))))
theorem f46_top (a0 : Int) (a1 : Int) (a2 : (Nat → Int)) (a3 : Int) (a4 : Int) (a5 : (Nat → Int)) (r : List A) : ev f46_X (lpc (cnOf f46_LV) (f46_L r)) f46_c (K0 TT f46_rv) (enter [.rc [.v (.int .i8 a0), .v (.int .i8 a1), .fa 144 .u8 a2], .rc [.v (.int .i8 a3), .v (.int .i8 a4), .fa 144 .u8 a5]]) = (Option.bind (s72 [(a0, a1, a2), (a3, a4, a5)]) fun r1 => (cond (r1 != 0) (some [.lst (.one (.i .i64)) [], .v (.int .i64 r1)]) (f46_L r 6 (f46_s6 a2 0 a3 a4 a5 [])))) := by kernel_rfl
theorem s46_ok (a0 : Int) (a1 : Int) (a2 : (Nat → Int)) (a3 : Int) (a4 : Int) (a5 : (Nat → Int)) (v : ((List Int) × Int)) (h : s46 a0 a1 a2 a3 a4 a5 = some v) : (Option.bind (s72 [(a0, a1, a2), (a3, a4, a5)]) fun r1 => (cond (r1 != 0) (some [.lst (.one (.i .i64)) [], .v (.int .i64 r1)]) (f46_L (l46 v) 6 (f46_s6 a2 0 a3 a4 a5 [])))) = some (l46 v) := by
  unfold s46 at h
  have go : ∀ r, sem (fun v => r = l46 v) ((Option.bind (s72 [(a0, a1, a2), (a3, a4, a5)]) fun r1 => (cond (r1 != 0) (some ([], r1)) (f46_run6 (a2, 0, a3, a4, a5, []))))) → (Option.bind (s72 [(a0, a1, a2), (a3, a4, a5)]) fun r1 => (cond (r1 != 0) (some [.lst (.one (.i .i64)) [], .v (.int .i64 r1)]) (f46_L r 6 (f46_s6 a2 0 a3 a4 a5 [])))) = some r := fun r h => (sem_bind h fun r1 h => (sem_cond h (fun h => sem_got h fun q => some_eq q) (fun h => f46_go6 r _ h)))
  exact go (l46 v) ⟨v, h, rfl⟩
noncomputable def c46 : List A → ACall
  | [.rc [.v (.int .i8 a0), .v (.int .i8 a1), .fa 144 .u8 a2], .rc [.v (.int .i8 a3), .v (.int .i8 a4), .fa 144 .u8 a5]] => ⟨((List Int) × Int), s46 a0 a1 a2 a3 a4 a5, fun r => .tup [.lst (.one (.i .i64)) r.1, .v (.int .i64 r.2)]⟩
  | _ => ACall.fail
theorem f46_sound : Sound Try.prog 46 c46 := by
  refine sound_good f46_ctx f46_LV 2 Try.func46 (c := f46_c) (by kernel_rfl) (rv := f46_rv) (by kernel_rfl) (by kernel_rfl) (by kernel_rfl) (by kernel_rfl) fun rs => ?_
  unfold c46
  split
  · rename_i a0 a1 a2 a3 a4 a5; intro v h; exact ⟨rfl, l46 v, rfl, (f46_top a0 a1 a2 a3 a4 a5 _).trans (s46_ok a0 a1 a2 a3 a4 a5 v h)⟩
  · intro v h; cases h

/-! ### function 14: loop.example/g01322/laws.FnExactWrongStones -/
noncomputable def f14_c : Code := match Try.f14.body with | some c => c | none => .skip
noncomputable def f14_X : Ctx := ⟨TT, phiOf [(16, c16), (27, c27), (29, c29), (45, c45), (46, c46)], (psiOf [(28, u28)])⟩
def f14_LV : List (Nat × Keep) := []
def f14_rv : List ResultVar := [.tmp 4]
noncomputable def f14_L (r : List A) : Nat → AS → Option (List A) := L f14_X (cnOf f14_LV) f14_c (K0 TT f14_rv) r
theorem f14_ctx : CtxOK Try.prog f14_X := ctx_ofU tab mix (l := [(16, c16), (27, c27), (29, c29), (45, c45), (46, c46)]) ⟨⟨Try.call16, f16_sound⟩, ⟨Try.call27, f27_sound⟩, ⟨Try.call29, f29_sound⟩, ⟨Try.call45, f45_sound⟩, ⟨Try.call46, f46_sound⟩, trivial⟩ (psi_ok (l := [(28, u28)]) ⟨⟨Try.call28, f28_sound⟩, trivial⟩)
noncomputable def s14 (a0 : Int) (a1 : Int) (a2 : (Nat → Int)) (a3 : Int) (a4 : Int) (a5 : (Nat → Int)) : Option Bool := (Option.bind (s45 (s16 a0 a1 a2).1 (s16 a0 a1 a2).2.1 (s16 a0 a1 a2).2.2 (s16 a3 a4 a5).1 (s16 a3 a4 a5).2.1 (s16 a3 a4 a5).2.2) fun r1 => (Option.bind (s46 (s16 a0 a1 a2).1 (s16 a0 a1 a2).2.1 (s16 a0 a1 a2).2.2 (s16 a3 a4 a5).1 (s16 a3 a4 a5).2.1 (s16 a3 a4 a5).2.2) fun r2 => (Option.bind (s27 (r2.1) (r1.1)) fun r3 => (cond (!r3) (some false) (cond (r2.2 != r1.2) (some false) (Option.bind (s28 (r2.1) 1) fun r4 => (Option.bind (s29 (r4.2) 1) fun r5 => (cond (decide (r5 < 0)) (some false) (cond (r5 != r4.1) (some false) (Option.bind (s46 (s16 a0 a1 a2).1 (s16 a0 a1 a2).2.1 (s16 a0 a1 a2).2.2 (s16 a3 a4 a5).1 (s16 a3 a4 a5).2.1 (s16 a3 a4 a5).2.2) fun r6 => (Option.bind (s27 (r6.1) (r1.1)) fun r7 => (cond (!r7) (some false) (cond (r6.2 != r1.2) (some false) (Option.bind (s29 (r4.2) 1) fun r8 => (cond (decide (r8 < 0)) (some false) (cond (r8 != r4.1) (some false) (some true)))))))))))))))))
theorem f14_top (a0 : Int) (a1 : Int) (a2 : (Nat → Int)) (a3 : Int) (a4 : Int) (a5 : (Nat → Int)) (r : List A) : ev f14_X (lpc (cnOf f14_LV) (f14_L r)) f14_c (K0 TT f14_rv) (enter [.rc [.v (.int .i8 a0), .v (.int .i8 a1), .fa 144 .u8 a2], .rc [.v (.int .i8 a3), .v (.int .i8 a4), .fa 144 .u8 a5]]) = (Option.bind (s45 (s16 a0 a1 a2).1 (s16 a0 a1 a2).2.1 (s16 a0 a1 a2).2.2 (s16 a3 a4 a5).1 (s16 a3 a4 a5).2.1 (s16 a3 a4 a5).2.2) fun r1 => (Option.bind (s46 (s16 a0 a1 a2).1 (s16 a0 a1 a2).2.1 (s16 a0 a1 a2).2.2 (s16 a3 a4 a5).1 (s16 a3 a4 a5).2.1 (s16 a3 a4 a5).2.2) fun r2 => (Option.bind (s27 (r2.1) (r1.1)) fun r3 => (cond (!r3) (some [.v (.bool false)]) (cond (r2.2 != r1.2) (some [.v (.bool false)]) (Option.bind (s28 (r2.1) 1) fun r4 => (Option.bind (s29 (r4.2) 1) fun r5 => (cond (decide (r5 < 0)) (some [.v (.bool false)]) (cond (r5 != r4.1) (some [.v (.bool false)]) (Option.bind (s46 (s16 a0 a1 a2).1 (s16 a0 a1 a2).2.1 (s16 a0 a1 a2).2.2 (s16 a3 a4 a5).1 (s16 a3 a4 a5).2.1 (s16 a3 a4 a5).2.2) fun r6 => (Option.bind (s27 (r6.1) (r1.1)) fun r7 => (cond (!r7) (some [.v (.bool false)]) (cond (r6.2 != r1.2) (some [.v (.bool false)]) (Option.bind (s29 (r4.2) 1) fun r8 => (cond (decide (r8 < 0)) (some [.v (.bool false)]) (cond (r8 != r4.1) (some [.v (.bool false)]) (some [.v (.bool true)]))))))))))))))))) := by kernel_rfl
noncomputable def l14 (r : Bool) : List A := [.v (.bool r)]
theorem s14_ok (a0 : Int) (a1 : Int) (a2 : (Nat → Int)) (a3 : Int) (a4 : Int) (a5 : (Nat → Int)) (v : Bool) (h : s14 a0 a1 a2 a3 a4 a5 = some v) : (Option.bind (s45 (s16 a0 a1 a2).1 (s16 a0 a1 a2).2.1 (s16 a0 a1 a2).2.2 (s16 a3 a4 a5).1 (s16 a3 a4 a5).2.1 (s16 a3 a4 a5).2.2) fun r1 => (Option.bind (s46 (s16 a0 a1 a2).1 (s16 a0 a1 a2).2.1 (s16 a0 a1 a2).2.2 (s16 a3 a4 a5).1 (s16 a3 a4 a5).2.1 (s16 a3 a4 a5).2.2) fun r2 => (Option.bind (s27 (r2.1) (r1.1)) fun r3 => (cond (!r3) (some [.v (.bool false)]) (cond (r2.2 != r1.2) (some [.v (.bool false)]) (Option.bind (s28 (r2.1) 1) fun r4 => (Option.bind (s29 (r4.2) 1) fun r5 => (cond (decide (r5 < 0)) (some [.v (.bool false)]) (cond (r5 != r4.1) (some [.v (.bool false)]) (Option.bind (s46 (s16 a0 a1 a2).1 (s16 a0 a1 a2).2.1 (s16 a0 a1 a2).2.2 (s16 a3 a4 a5).1 (s16 a3 a4 a5).2.1 (s16 a3 a4 a5).2.2) fun r6 => (Option.bind (s27 (r6.1) (r1.1)) fun r7 => (cond (!r7) (some [.v (.bool false)]) (cond (r6.2 != r1.2) (some [.v (.bool false)]) (Option.bind (s29 (r4.2) 1) fun r8 => (cond (decide (r8 < 0)) (some [.v (.bool false)]) (cond (r8 != r4.1) (some [.v (.bool false)]) (some [.v (.bool true)]))))))))))))))))) = some (l14 v) := by
  have e : (Option.bind (s45 (s16 a0 a1 a2).1 (s16 a0 a1 a2).2.1 (s16 a0 a1 a2).2.2 (s16 a3 a4 a5).1 (s16 a3 a4 a5).2.1 (s16 a3 a4 a5).2.2) fun r1 => (Option.bind (s46 (s16 a0 a1 a2).1 (s16 a0 a1 a2).2.1 (s16 a0 a1 a2).2.2 (s16 a3 a4 a5).1 (s16 a3 a4 a5).2.1 (s16 a3 a4 a5).2.2) fun r2 => (Option.bind (s27 (r2.1) (r1.1)) fun r3 => (cond (!r3) (some [.v (.bool false)]) (cond (r2.2 != r1.2) (some [.v (.bool false)]) (Option.bind (s28 (r2.1) 1) fun r4 => (Option.bind (s29 (r4.2) 1) fun r5 => (cond (decide (r5 < 0)) (some [.v (.bool false)]) (cond (r5 != r4.1) (some [.v (.bool false)]) (Option.bind (s46 (s16 a0 a1 a2).1 (s16 a0 a1 a2).2.1 (s16 a0 a1 a2).2.2 (s16 a3 a4 a5).1 (s16 a3 a4 a5).2.1 (s16 a3 a4 a5).2.2) fun r6 => (Option.bind (s27 (r6.1) (r1.1)) fun r7 => (cond (!r7) (some [.v (.bool false)]) (cond (r6.2 != r1.2) (some [.v (.bool false)]) (Option.bind (s29 (r4.2) 1) fun r8 => (cond (decide (r8 < 0)) (some [.v (.bool false)]) (cond (r8 != r4.1) (some [.v (.bool false)]) (some [.v (.bool true)]))))))))))))))))) = Option.map l14 (s14 a0 a1 a2 a3 a4 a5) := by
    unfold s14
    exact (bind_app fun _ => (bind_app fun _ => (bind_app fun _ => (cond_app (Option.map l14) rfl (cond_app (Option.map l14) rfl (bind_app fun _ => (bind_app fun _ => (cond_app (Option.map l14) rfl (cond_app (Option.map l14) rfl (bind_app fun _ => (bind_app fun _ => (cond_app (Option.map l14) rfl (cond_app (Option.map l14) rfl (bind_app fun _ => (cond_app (Option.map l14) rfl (cond_app (Option.map l14) rfl rfl))))))))))))))))
  rw [e, h]; rfl
noncomputable def c14 : List A → ACall
  | [.rc [.v (.int .i8 a0), .v (.int .i8 a1), .fa 144 .u8 a2], .rc [.v (.int .i8 a3), .v (.int .i8 a4), .fa 144 .u8 a5]] => ⟨Bool, s14 a0 a1 a2 a3 a4 a5, fun r => .one (.v (.bool r))⟩
  | _ => ACall.fail
theorem f14_sound : Sound Try.prog 14 c14 := by
  refine sound_good f14_ctx f14_LV 2 Try.func14 (c := f14_c) (by kernel_rfl) (rv := f14_rv) (by kernel_rfl) (by kernel_rfl) (by kernel_rfl) (by kernel_rfl) fun rs => ?_
  unfold c14
  split
  · rename_i a0 a1 a2 a3 a4 a5; intro v h; exact ⟨rfl, l14 v, rfl, (f14_top a0 a1 a2 a3 a4 a5 _).trans (s14_ok a0 a1 a2 a3 a4 a5 v h)⟩
  · intro v h; cases h
end Go.RR
