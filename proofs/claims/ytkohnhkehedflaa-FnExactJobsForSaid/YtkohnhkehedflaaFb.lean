/- Fields of pictures. -/
import Derived.Test.YtkohnhkehedflaaFa
import Derived.Test.YtkohnhkehedflaaFs
import Derived.Test.YtkohnhkehedflaaR3
set_option linter.unusedVariables false
set_option linter.unusedSimpArgs false
set_option linter.unusedSectionVars false
set_option maxRecDepth 100000
namespace Go.RR
open Go Go.Proofs

/-! ### function 213: slices.Index[[]int64,int64] -/
noncomputable def f_gIndex_int64_c : Code := match Try.f213.body with | some c => c | none => .skip
noncomputable def f_gIndex_int64_X : Ctx := ⟨TT, phiOf [], noPsi, noXi⟩
def f_gIndex_int64_LV : List (Nat × Keep) := [(2, ([0, 1, 7, 8], [], []))]
def f_gIndex_int64_rv : List ResultVar := [.tmp 4]
noncomputable def f_gIndex_int64_L (r : List A) : Nat → AS → Option (List A) := L f_gIndex_int64_X (cnOf f_gIndex_int64_LV) f_gIndex_int64_c (K0 TT f_gIndex_int64_rv) r
theorem f_gIndex_int64_ctx : CtxOK Try.prog f_gIndex_int64_X := ctx_of tab mix trivial
noncomputable def f_gIndex_int64_s2 (x0 : Int) (x1 : Int) (x2 : Int) (x3 : (List Int)) : AS := ⟨[(0, .a (.sl 0)), (1, .a (.v (.int .i64 x0))), (7, .a (.v (.int .i64 x1))), (8, .a (.v (.int .i64 x2)))], [(0, some ⟨false, .arr (.one (.i .i64)) x3⟩)], 1⟩
noncomputable def l_gIndex_int64 (r : Int) : List A := [.v (.int .i64 r)]
theorem f_gIndex_int64_step2 (x0 : Int) (x1 : Int) (x2 : Int) (x3 : (List Int)) (r : List A) (h : (cond (decide (x2 < x1)) (cond (inB x2 (List.length x3)) (cond (x0 == (List.getD x3 (Int.toNat x2) 0)) (some [.v (.int .i64 x2)]) (f_gIndex_int64_L r 2 (f_gIndex_int64_s2 x0 x1 (IntKind.wrap .i64 (x2 + 1)) x3))) none) (some [.v (.int .i64 (-1))])) = some r) : f_gIndex_int64_L r 2 (f_gIndex_int64_s2 x0 x1 x2 x3) = some r :=
  step_of' h (by kernel_rfl)
noncomputable def f_gIndex_int64_n2 (x0 : Int) (x1 : Int) (x2 : Int) (x3 : (List Int)) : Option ((Int × Int × Int × (List Int)) ⊕ Int) := (cond (decide (x2 < x1)) (cond (inB x2 (List.length x3)) (cond (x0 == (List.getD x3 (Int.toNat x2) 0)) (some (Sum.inr x2)) (some (Sum.inl (x0, x1, (IntKind.wrap .i64 (x2 + 1)), x3)))) none) (some (Sum.inr (-1))))
noncomputable def f_gIndex_int64_run2 (x : (Int × Int × Int × (List Int))) : Option Int := iter (fun x => f_gIndex_int64_n2 x.1 x.2.1 x.2.2.1 x.2.2.2) FU x
noncomputable def f_gIndex_int64_G2 (r : List A) (x : (Int × Int × Int × (List Int))) : Prop := f_gIndex_int64_L r 2 (f_gIndex_int64_s2 x.1 x.2.1 x.2.2.1 x.2.2.2) = some r
noncomputable def f_gIndex_int64_S2 (r : List A) : Int → Prop := fun v => r = l_gIndex_int64 v
theorem f_gIndex_int64_go2 (r : List A) : ∀ x, sem (f_gIndex_int64_S2 r) (f_gIndex_int64_run2 x) → f_gIndex_int64_G2 r x :=
  fun x => iter_sound (step := fun x => f_gIndex_int64_n2 x.1 x.2.1 x.2.2.1 x.2.2.2) (fun x h => by
    unfold f_gIndex_int64_n2 at h
    exact f_gIndex_int64_step2 x.1 x.2.1 x.2.2.1 x.2.2.2 r ((sem_cond h (fun h => (sem_cond h (fun h => (sem_cond h (fun h => sem_got h fun q => some_eq q) (fun h => sem_got h fun q => q))) (fun h => sem_none h))) (fun h => sem_got h fun q => some_eq q)))) FU x
noncomputable def s_gIndex_int64 (a0 : (List Int)) (a1 : Int) : Option Int := (f_gIndex_int64_run2 (a1, ((List.length a0 : Nat) : Int), 0, a0))
theorem f_gIndex_int64_top (a0 : (List Int)) (a1 : Int) (r : List A) : ev f_gIndex_int64_X (lpc (cnOf f_gIndex_int64_LV) (f_gIndex_int64_L r)) f_gIndex_int64_c (K0 TT f_gIndex_int64_rv) (enter [.lst (.one (.i .i64)) a0, .v (.int .i64 a1)]) = (f_gIndex_int64_L r 2 (f_gIndex_int64_s2 a1 ((List.length a0 : Nat) : Int) 0 a0)) := by kernel_rfl
theorem s_gIndex_int64_ok (a0 : (List Int)) (a1 : Int) (v : Int) (h : s_gIndex_int64 a0 a1 = some v) : (f_gIndex_int64_L (l_gIndex_int64 v) 2 (f_gIndex_int64_s2 a1 ((List.length a0 : Nat) : Int) 0 a0)) = some (l_gIndex_int64 v) := by
  unfold s_gIndex_int64 at h
  have go : ∀ r, sem (fun v => r = l_gIndex_int64 v) ((f_gIndex_int64_run2 (a1, ((List.length a0 : Nat) : Int), 0, a0))) → (f_gIndex_int64_L r 2 (f_gIndex_int64_s2 a1 ((List.length a0 : Nat) : Int) 0 a0)) = some r := fun r h => f_gIndex_int64_go2 r _ h
  exact go (l_gIndex_int64 v) ⟨v, h, rfl⟩
noncomputable def c_gIndex_int64 : List A → ACall
  | [.lst (.one (.i .i64)) a0, .v (.int .i64 a1)] => ⟨Int, s_gIndex_int64 a0 a1, fun r => .one (.v (.int .i64 r))⟩
  | _ => ACall.fail
theorem f_gIndex_int64_sound : Sound Try.prog 213 c_gIndex_int64 := by
  refine sound_good f_gIndex_int64_ctx f_gIndex_int64_LV 2 Try.func213 (c := f_gIndex_int64_c) (by kernel_rfl) (rv := f_gIndex_int64_rv) (by kernel_rfl) (by kernel_rfl) (by kernel_rfl) (by kernel_rfl) fun rs => ?_
  unfold c_gIndex_int64
  split
  · rename_i a0 a1; intro v h; exact ⟨rfl, l_gIndex_int64 v, rfl, (f_gIndex_int64_top a0 a1 _).trans (s_gIndex_int64_ok a0 a1 v h)⟩
  · intro v h; cases h

/-! ### function 192: slices.Contains[[]int64,int64] -/
noncomputable def f_gContains_int64_c : Code := match Try.f192.body with | some c => c | none => .skip
noncomputable def f_gContains_int64_X : Ctx := ⟨TT, phiOf [(213, c_gIndex_int64)], noPsi, noXi⟩
def f_gContains_int64_LV : List (Nat × Keep) := []
def f_gContains_int64_rv : List ResultVar := [.tmp 4]
noncomputable def f_gContains_int64_L (r : List A) : Nat → AS → Option (List A) := L f_gContains_int64_X (cnOf f_gContains_int64_LV) f_gContains_int64_c (K0 TT f_gContains_int64_rv) r
theorem f_gContains_int64_ctx : CtxOK Try.prog f_gContains_int64_X := ctx_of tab mix ⟨⟨Try.call213, f_gIndex_int64_sound⟩, trivial⟩
noncomputable def s_gContains_int64 (a0 : (List Int)) (a1 : Int) : Option Bool := (Option.bind (s_gIndex_int64 a0 a1) fun r1 => (some (decide (r1 ≥ 0))))
theorem f_gContains_int64_top (a0 : (List Int)) (a1 : Int) (r : List A) : ev f_gContains_int64_X (lpc (cnOf f_gContains_int64_LV) (f_gContains_int64_L r)) f_gContains_int64_c (K0 TT f_gContains_int64_rv) (enter [.lst (.one (.i .i64)) a0, .v (.int .i64 a1)]) = (Option.bind (s_gIndex_int64 a0 a1) fun r1 => (some [.v (.bool (decide (r1 ≥ 0)))])) := by kernel_rfl
noncomputable def l_gContains_int64 (r : Bool) : List A := [.v (.bool r)]
theorem s_gContains_int64_ok (a0 : (List Int)) (a1 : Int) (v : Bool) (h : s_gContains_int64 a0 a1 = some v) : (Option.bind (s_gIndex_int64 a0 a1) fun r1 => (some [.v (.bool (decide (r1 ≥ 0)))])) = some (l_gContains_int64 v) := by
  have e : (Option.bind (s_gIndex_int64 a0 a1) fun r1 => (some [.v (.bool (decide (r1 ≥ 0)))])) = Option.map l_gContains_int64 (s_gContains_int64 a0 a1) := by
    unfold s_gContains_int64
    exact (bind_app fun _ => rfl)
  rw [e, h]; rfl
noncomputable def c_gContains_int64 : List A → ACall
  | [.lst (.one (.i .i64)) a0, .v (.int .i64 a1)] => ⟨Bool, s_gContains_int64 a0 a1, fun r => .one (.v (.bool r))⟩
  | _ => ACall.fail
theorem f_gContains_int64_sound : Sound Try.prog 192 c_gContains_int64 := by
  refine sound_good f_gContains_int64_ctx f_gContains_int64_LV 2 Try.func192 (c := f_gContains_int64_c) (by kernel_rfl) (rv := f_gContains_int64_rv) (by kernel_rfl) (by kernel_rfl) (by kernel_rfl) (by kernel_rfl) fun rs => ?_
  unfold c_gContains_int64
  split
  · rename_i a0 a1; intro v h; exact ⟨rfl, l_gContains_int64 v, rfl, (f_gContains_int64_top a0 a1 _).trans (s_gContains_int64_ok a0 a1 v h)⟩
  · intro v h; cases h

/-! ### function 188: (loop.example/g01322/impl.Picture).field -/
noncomputable def f_iPicture_field_c : Code := match Try.f188.body with | some c => c | none => .skip
noncomputable def f_iPicture_field_X : Ctx := ⟨TT, phiOf [(190, c_ibeside), (192, c_gContains_int64)], (psiOf [(212, u_gSort)]), noXi⟩
def f_iPicture_field_LV : List (Nat × Keep) := [(3, ([3, 7, 8], [], [])), (6, ([3, 7, 8, 30, 31, 32], [], []))]
def f_iPicture_field_rv : List ResultVar := [.tmp 6]
noncomputable def f_iPicture_field_L (r : List A) : Nat → AS → Option (List A) := L f_iPicture_field_X (cnOf f_iPicture_field_LV) f_iPicture_field_c (K0 TT f_iPicture_field_rv) r
theorem f_iPicture_field_ctx : CtxOK Try.prog f_iPicture_field_X := ctx_ofH tab mix (l := [(190, c_ibeside), (192, c_gContains_int64)]) ⟨⟨Try.call190, f_ibeside_sound⟩, ⟨Try.call192, f_gContains_int64_sound⟩, trivial⟩ (psi_ok (l := [(212, u_gSort)]) ⟨⟨Try.call212, f_gSort_sound⟩, trivial⟩) xi_no
noncomputable def f_iPicture_field_s3 (x0 : Int) (x1 : Int) (x2 : Int) (x3 : (Nat → Int)) (x4 : (List Int)) : AS := ⟨[(3, .a (.ptr 0 [] (0))), (7, .a (.sl 1)), (8, .a (.v (.int .i64 x0)))], [(0, some ⟨true, .box (.rc [.v (.int .i8 x1), .v (.int .i8 x2), .fa 144 .u8 x3])⟩), (1, some ⟨true, .arr (.one (.i .i64)) x4⟩)], 2⟩
noncomputable def f_iPicture_field_s6 (x0 : Int) (x1 : Int) (x2 : Int) (x3 : Int) (x4 : Int) (x5 : (Nat → Int)) (x6 : (List Int)) (x7 : (List Int)) : AS := ⟨[(3, .a (.ptr 0 [] (0))), (7, .a (.sl 1)), (8, .a (.v (.int .i64 x0))), (30, .a (.sl 2)), (31, .a (.v (.int .i64 x1))), (32, .a (.v (.int .i64 x2)))], [(0, some ⟨true, .box (.rc [.v (.int .i8 x3), .v (.int .i8 x4), .fa 144 .u8 x5])⟩), (1, some ⟨true, .arr (.one (.i .i64)) x6⟩), (2, some ⟨true, .arr (.one (.i .i64)) x7⟩)], 3⟩
noncomputable def l_iPicture_field (r : (List Int)) : List A := [.lst (.one (.i .i64)) r]
theorem f_iPicture_field_step6 (x0 : Int) (x1 : Int) (x2 : Int) (x3 : Int) (x4 : Int) (x5 : (Nat → Int)) (x6 : (List Int)) (x7 : (List Int)) (r : List A) (h : (cond (decide (x2 < x1)) (cond (inB x2 (List.length x7)) (cond (inB (List.getD x7 (Int.toNat x2) 0) 144) (cond (inB x0 (List.length x6)) (cond (inB (List.getD x6 (Int.toNat x0) 0) 144) (cond ((x5 (Int.toNat (List.getD x7 (Int.toNat x2) 0))) == (x5 (Int.toNat (List.getD x6 (Int.toNat x0) 0)))) (Option.bind (s_gContains_int64 x6 (List.getD x7 (Int.toNat x2) 0)) fun r3 => (cond (!r3) (cond (fits ((List.length (x6 : List Int) + List.length ([(List.getD x7 (Int.toNat x2) 0)] : List Int)) * 8)) (f_iPicture_field_L r 6 (f_iPicture_field_s6 x0 x1 (IntKind.wrap .i64 (x2 + 1)) x3 x4 x5 (x6 ++ [(List.getD x7 (Int.toNat x2) 0)]) x7)) none) (f_iPicture_field_L r 6 (f_iPicture_field_s6 x0 x1 (IntKind.wrap .i64 (x2 + 1)) x3 x4 x5 x6 x7)))) (f_iPicture_field_L r 6 (f_iPicture_field_s6 x0 x1 (IntKind.wrap .i64 (x2 + 1)) x3 x4 x5 x6 x7))) none) none) none) none) (f_iPicture_field_L r 3 (f_iPicture_field_s3 (IntKind.wrap .i64 (x0 + 1)) x3 x4 x5 x6))) = some r) : f_iPicture_field_L r 6 (f_iPicture_field_s6 x0 x1 x2 x3 x4 x5 x6 x7) = some r :=
  step_of' h (by kernel_rfl)
noncomputable def f_iPicture_field_n6 (x0 : Int) (x1 : Int) (x2 : Int) (x3 : Int) (x4 : Int) (x5 : (Nat → Int)) (x6 : (List Int)) (x7 : (List Int)) : Option ((Int × Int × Int × Int × Int × (Nat → Int) × (List Int) × (List Int)) ⊕ ((Int × Int × Int × (Nat → Int) × (List Int)) ⊕ (List Int))) := (cond (decide (x2 < x1)) (cond (inB x2 (List.length x7)) (cond (inB (List.getD x7 (Int.toNat x2) 0) 144) (cond (inB x0 (List.length x6)) (cond (inB (List.getD x6 (Int.toNat x0) 0) 144) (cond ((x5 (Int.toNat (List.getD x7 (Int.toNat x2) 0))) == (x5 (Int.toNat (List.getD x6 (Int.toNat x0) 0)))) (Option.bind (s_gContains_int64 x6 (List.getD x7 (Int.toNat x2) 0)) fun r3 => (cond (!r3) (cond (fits ((List.length (x6 : List Int) + List.length ([(List.getD x7 (Int.toNat x2) 0)] : List Int)) * 8)) (some (Sum.inl (x0, x1, (IntKind.wrap .i64 (x2 + 1)), x3, x4, x5, (x6 ++ [(List.getD x7 (Int.toNat x2) 0)]), x7))) none) (some (Sum.inl (x0, x1, (IntKind.wrap .i64 (x2 + 1)), x3, x4, x5, x6, x7))))) (some (Sum.inl (x0, x1, (IntKind.wrap .i64 (x2 + 1)), x3, x4, x5, x6, x7)))) none) none) none) none) (some (Sum.inr (Sum.inl ((IntKind.wrap .i64 (x0 + 1)), x3, x4, x5, x6)))))
noncomputable def f_iPicture_field_run6 (x : (Int × Int × Int × Int × Int × (Nat → Int) × (List Int) × (List Int))) : Option ((Int × Int × Int × (Nat → Int) × (List Int)) ⊕ (List Int)) := iter (fun x => f_iPicture_field_n6 x.1 x.2.1 x.2.2.1 x.2.2.2.1 x.2.2.2.2.1 x.2.2.2.2.2.1 x.2.2.2.2.2.2.1 x.2.2.2.2.2.2.2) FU x
noncomputable def f_iPicture_field_G6 (r : List A) (x : (Int × Int × Int × Int × Int × (Nat → Int) × (List Int) × (List Int))) : Prop := f_iPicture_field_L r 6 (f_iPicture_field_s6 x.1 x.2.1 x.2.2.1 x.2.2.2.1 x.2.2.2.2.1 x.2.2.2.2.2.1 x.2.2.2.2.2.2.1 x.2.2.2.2.2.2.2) = some r
theorem f_iPicture_field_step3 (x0 : Int) (x1 : Int) (x2 : Int) (x3 : (Nat → Int)) (x4 : (List Int)) (r : List A) (h : (cond (decide (x0 < ((List.length x4 : Nat) : Int))) (cond (inB x0 (List.length x4)) (Option.bind (s_ibeside (List.getD x4 (Int.toNat x0) 0) x1 x2) fun r1 => (f_iPicture_field_L r 6 (f_iPicture_field_s6 x0 ((List.length r1 : Nat) : Int) 0 x1 x2 x3 x4 r1))) none) (Option.bind (s_gSort x4) fun r2 => (some [.lst (.one (.i .i64)) (r2)]))) = some r) : f_iPicture_field_L r 3 (f_iPicture_field_s3 x0 x1 x2 x3 x4) = some r :=
  step_of' h (by kernel_rfl)
noncomputable def f_iPicture_field_n3 (x0 : Int) (x1 : Int) (x2 : Int) (x3 : (Nat → Int)) (x4 : (List Int)) : Option ((Int × Int × Int × (Nat → Int) × (List Int)) ⊕ (List Int)) := (cond (decide (x0 < ((List.length x4 : Nat) : Int))) (cond (inB x0 (List.length x4)) (Option.bind (s_ibeside (List.getD x4 (Int.toNat x0) 0) x1 x2) fun r1 => (f_iPicture_field_run6 (x0, ((List.length r1 : Nat) : Int), 0, x1, x2, x3, x4, r1))) none) (Option.bind (s_gSort x4) fun r2 => (some (Sum.inr (r2)))))
noncomputable def f_iPicture_field_run3 (x : (Int × Int × Int × (Nat → Int) × (List Int))) : Option (List Int) := iter (fun x => f_iPicture_field_n3 x.1 x.2.1 x.2.2.1 x.2.2.2.1 x.2.2.2.2) FU x
noncomputable def f_iPicture_field_G3 (r : List A) (x : (Int × Int × Int × (Nat → Int) × (List Int))) : Prop := f_iPicture_field_L r 3 (f_iPicture_field_s3 x.1 x.2.1 x.2.2.1 x.2.2.2.1 x.2.2.2.2) = some r
noncomputable def f_iPicture_field_S3 (r : List A) : (List Int) → Prop := fun v => r = l_iPicture_field v
noncomputable def f_iPicture_field_S6 (r : List A) : ((Int × Int × Int × (Nat → Int) × (List Int)) ⊕ (List Int)) → Prop := goesOn (f_iPicture_field_G3 r) (f_iPicture_field_S3 r)
theorem f_iPicture_field_go6 (r : List A) : ∀ x, sem (f_iPicture_field_S6 r) (f_iPicture_field_run6 x) → f_iPicture_field_G6 r x :=
  fun x => iter_sound (step := fun x => f_iPicture_field_n6 x.1 x.2.1 x.2.2.1 x.2.2.2.1 x.2.2.2.2.1 x.2.2.2.2.2.1 x.2.2.2.2.2.2.1 x.2.2.2.2.2.2.2) (fun x h => by
    unfold f_iPicture_field_n6 at h
    exact f_iPicture_field_step6 x.1 x.2.1 x.2.2.1 x.2.2.2.1 x.2.2.2.2.1 x.2.2.2.2.2.1 x.2.2.2.2.2.2.1 x.2.2.2.2.2.2.2 r ((sem_cond h (fun h => (sem_cond h (fun h => (sem_cond h (fun h => (sem_cond h (fun h => (sem_cond h (fun h => (sem_cond h (fun h => (sem_bind h fun r3 h => (sem_cond h (fun h => (sem_cond h (fun h => sem_got h fun q => q) (fun h => sem_none h))) (fun h => sem_got h fun q => q)))) (fun h => sem_got h fun q => q))) (fun h => sem_none h))) (fun h => sem_none h))) (fun h => sem_none h))) (fun h => sem_none h))) (fun h => sem_got h fun q => q)))) FU x
theorem f_iPicture_field_go3 (r : List A) : ∀ x, sem (f_iPicture_field_S3 r) (f_iPicture_field_run3 x) → f_iPicture_field_G3 r x :=
  fun x => iter_sound (step := fun x => f_iPicture_field_n3 x.1 x.2.1 x.2.2.1 x.2.2.2.1 x.2.2.2.2) (fun x h => by
    unfold f_iPicture_field_n3 at h
    exact f_iPicture_field_step3 x.1 x.2.1 x.2.2.1 x.2.2.2.1 x.2.2.2.2 r ((sem_cond h (fun h => (sem_cond h (fun h => (sem_bind h fun r1 h => f_iPicture_field_go6 r _ h)) (fun h => sem_none h))) (fun h => (sem_bind h fun r2 h => sem_got h fun q => some_eq q))))) FU x
noncomputable def s_iPicture_field (a0 : Int) (a1 : Int) (a2 : (Nat → Int)) (a3 : Int) (a4 : Int) : Option (List Int) := (f_iPicture_field_run3 (0, a0, a1, a2, [(IntKind.wrap .i64 (a3 + (IntKind.wrap .i64 (12 * a4))))]))
theorem f_iPicture_field_top (a0 : Int) (a1 : Int) (a2 : (Nat → Int)) (a3 : Int) (a4 : Int) (r : List A) : ev f_iPicture_field_X (lpc (cnOf f_iPicture_field_LV) (f_iPicture_field_L r)) f_iPicture_field_c (K0 TT f_iPicture_field_rv) (enter [.rc [.v (.int .i8 a0), .v (.int .i8 a1), .fa 144 .u8 a2], .v (.int .i64 a3), .v (.int .i64 a4)]) = (f_iPicture_field_L r 3 (f_iPicture_field_s3 0 a0 a1 a2 [(IntKind.wrap .i64 (a3 + (IntKind.wrap .i64 (12 * a4))))])) := by kernel_rfl
theorem s_iPicture_field_ok (a0 : Int) (a1 : Int) (a2 : (Nat → Int)) (a3 : Int) (a4 : Int) (v : (List Int)) (h : s_iPicture_field a0 a1 a2 a3 a4 = some v) : (f_iPicture_field_L (l_iPicture_field v) 3 (f_iPicture_field_s3 0 a0 a1 a2 [(IntKind.wrap .i64 (a3 + (IntKind.wrap .i64 (12 * a4))))])) = some (l_iPicture_field v) := by
  unfold s_iPicture_field at h
  have go : ∀ r, sem (fun v => r = l_iPicture_field v) ((f_iPicture_field_run3 (0, a0, a1, a2, [(IntKind.wrap .i64 (a3 + (IntKind.wrap .i64 (12 * a4))))]))) → (f_iPicture_field_L r 3 (f_iPicture_field_s3 0 a0 a1 a2 [(IntKind.wrap .i64 (a3 + (IntKind.wrap .i64 (12 * a4))))])) = some r := fun r h => f_iPicture_field_go3 r _ h
  exact go (l_iPicture_field v) ⟨v, h, rfl⟩
noncomputable def c_iPicture_field : List A → ACall
  | [.rc [.v (.int .i8 a0), .v (.int .i8 a1), .fa 144 .u8 a2], .v (.int .i64 a3), .v (.int .i64 a4)] => ⟨(List Int), s_iPicture_field a0 a1 a2 a3 a4, fun r => .one (.lst (.one (.i .i64)) r)⟩
  | _ => ACall.fail
theorem f_iPicture_field_sound : Sound Try.prog 188 c_iPicture_field := by
  refine sound_good f_iPicture_field_ctx f_iPicture_field_LV 3 Try.func188 (c := f_iPicture_field_c) (by kernel_rfl) (rv := f_iPicture_field_rv) (by kernel_rfl) (by kernel_rfl) (by kernel_rfl) (by kernel_rfl) fun rs => ?_
  unfold c_iPicture_field
  split
  · rename_i a0 a1 a2 a3 a4; intro v h; exact ⟨rfl, l_iPicture_field v, rfl, (f_iPicture_field_top a0 a1 a2 a3 a4 _).trans (s_iPicture_field_ok a0 a1 a2 a3 a4 v h)⟩
  · intro v h; cases h

/-! ### function 185: loop.example/g01322/spec.l01Field -/
noncomputable def f_sl01Field_c : Code := match Try.f185.body with | some c => c | none => .skip
noncomputable def f_sl01Field_X : Ctx := ⟨TT, phiOf [(139, c_sl01Beside)], noPsi, noXi⟩
def f_sl01Field_LV : List (Nat × Keep) := [(5, ([0, 1, 4, 5, 6, 7], [], [])), (9, ([0, 1, 4, 5, 6, 7, 8, 9], [], []))]
def f_sl01Field_rv : List ResultVar := [.cell 4 212]
noncomputable def f_sl01Field_L (r : List A) : Nat → AS → Option (List A) := L f_sl01Field_X (cnOf f_sl01Field_LV) f_sl01Field_c (K0 TT f_sl01Field_rv) r
theorem f_sl01Field_ctx : CtxOK Try.prog f_sl01Field_X := ctx_of tab mix ⟨⟨Try.call139, f_sl01Beside_sound⟩, trivial⟩
noncomputable def f_sl01Field_s5 (x0 : Int) (x1 : Int) (x2 : Int) (x3 : Int) (x4 : (Nat → Int)) (x5 : (Nat → Bool)) (x6 : (Nat → Bool)) (x7 : (List Int)) : AS := ⟨[(0, .a (.ptr 0 [] (0))), (1, .a (.v (.int .i64 x0))), (4, .a (.ptr 1 [] (0))), (5, .a (.ptr 2 [] (0))), (6, .a (.sl 3)), (7, .a (.v (.int .i64 x1)))], [(0, some ⟨false, .box (.rc [.v (.int .i8 x2), .v (.int .i8 x3), .fa 144 .u8 x4])⟩), (1, some ⟨true, .box (.fb 144 x5)⟩), (2, some ⟨true, .box (.fb 144 x6)⟩), (3, some ⟨true, .arr (.one (.i .i64)) x7⟩)], 4⟩
noncomputable def f_sl01Field_s9 (x0 : Int) (x1 : Int) (x2 : Int) (x3 : Int) (x4 : Int) (x5 : (Nat → Int)) (x6 : (Nat → Bool)) (x7 : (Nat → Bool)) (x8 : (List Int)) (x9 : (List Int)) : AS := ⟨[(0, .a (.ptr 0 [] (0))), (1, .a (.v (.int .i64 x0))), (4, .a (.ptr 1 [] (0))), (5, .a (.ptr 2 [] (0))), (6, .a (.sl 3)), (7, .a (.v (.int .i64 x1))), (8, .a (.sl 4)), (9, .a (.v (.int .i64 x2)))], [(0, some ⟨false, .box (.rc [.v (.int .i8 x3), .v (.int .i8 x4), .fa 144 .u8 x5])⟩), (1, some ⟨true, .box (.fb 144 x6)⟩), (2, some ⟨true, .box (.fb 144 x7)⟩), (3, some ⟨true, .arr (.one (.i .i64)) x8⟩), (4, some ⟨true, .arr (.one (.i .i64)) x9⟩)], 5⟩
noncomputable def l_sl01Field (r : (Nat → Bool)) : List A := [.fb 144 r]
theorem f_sl01Field_step9 (x0 : Int) (x1 : Int) (x2 : Int) (x3 : Int) (x4 : Int) (x5 : (Nat → Int)) (x6 : (Nat → Bool)) (x7 : (Nat → Bool)) (x8 : (List Int)) (x9 : (List Int)) (r : List A) (h : (cond (decide (x2 < ((List.length x9 : Nat) : Int))) (cond (inB x2 (List.length x9)) (cond (inB (List.getD x9 (Int.toNat x2) 0) 144) (cond (!(x7 (Int.toNat (List.getD x9 (Int.toNat x2) 0)))) (cond (inB x2 (List.length x9)) (cond (inB (List.getD x9 (Int.toNat x2) 0) 144) (cond (inB x0 144) (cond ((x5 (Int.toNat (List.getD x9 (Int.toNat x2) 0))) == (x5 (Int.toNat x0))) (cond (inB x2 (List.length x9)) (cond (inB (List.getD x9 (Int.toNat x2) 0) 144) (cond (inB x2 (List.length x9)) (cond (fits ((List.length (x8 : List Int) + List.length ([(List.getD x9 (Int.toNat x2) 0)] : List Int)) * 8)) (f_sl01Field_L r 9 (f_sl01Field_s9 x0 x1 (IntKind.wrap .i64 (x2 + 1)) x3 x4 x5 x6 (updb x7 (Int.toNat (List.getD x9 (Int.toNat x2) 0)) true) (x8 ++ [(List.getD x9 (Int.toNat x2) 0)]) x9)) none) none) none) none) (f_sl01Field_L r 9 (f_sl01Field_s9 x0 x1 (IntKind.wrap .i64 (x2 + 1)) x3 x4 x5 x6 x7 x8 x9))) none) none) none) (f_sl01Field_L r 9 (f_sl01Field_s9 x0 x1 (IntKind.wrap .i64 (x2 + 1)) x3 x4 x5 x6 x7 x8 x9))) none) none) (f_sl01Field_L r 5 (f_sl01Field_s5 x0 (IntKind.wrap .i64 (x1 + 1)) x3 x4 x5 x6 x7 x8))) = some r) : f_sl01Field_L r 9 (f_sl01Field_s9 x0 x1 x2 x3 x4 x5 x6 x7 x8 x9) = some r :=
  step_of' h (by kernel_rfl)
noncomputable def f_sl01Field_n9 (x0 : Int) (x1 : Int) (x2 : Int) (x3 : Int) (x4 : Int) (x5 : (Nat → Int)) (x6 : (Nat → Bool)) (x7 : (Nat → Bool)) (x8 : (List Int)) (x9 : (List Int)) : Option ((Int × Int × Int × Int × Int × (Nat → Int) × (Nat → Bool) × (Nat → Bool) × (List Int) × (List Int)) ⊕ ((Int × Int × Int × Int × (Nat → Int) × (Nat → Bool) × (Nat → Bool) × (List Int)) ⊕ (Nat → Bool))) := (cond (decide (x2 < ((List.length x9 : Nat) : Int))) (cond (inB x2 (List.length x9)) (cond (inB (List.getD x9 (Int.toNat x2) 0) 144) (cond (!(x7 (Int.toNat (List.getD x9 (Int.toNat x2) 0)))) (cond (inB x2 (List.length x9)) (cond (inB (List.getD x9 (Int.toNat x2) 0) 144) (cond (inB x0 144) (cond ((x5 (Int.toNat (List.getD x9 (Int.toNat x2) 0))) == (x5 (Int.toNat x0))) (cond (inB x2 (List.length x9)) (cond (inB (List.getD x9 (Int.toNat x2) 0) 144) (cond (inB x2 (List.length x9)) (cond (fits ((List.length (x8 : List Int) + List.length ([(List.getD x9 (Int.toNat x2) 0)] : List Int)) * 8)) (some (Sum.inl (x0, x1, (IntKind.wrap .i64 (x2 + 1)), x3, x4, x5, x6, (updb x7 (Int.toNat (List.getD x9 (Int.toNat x2) 0)) true), (x8 ++ [(List.getD x9 (Int.toNat x2) 0)]), x9))) none) none) none) none) (some (Sum.inl (x0, x1, (IntKind.wrap .i64 (x2 + 1)), x3, x4, x5, x6, x7, x8, x9)))) none) none) none) (some (Sum.inl (x0, x1, (IntKind.wrap .i64 (x2 + 1)), x3, x4, x5, x6, x7, x8, x9)))) none) none) (some (Sum.inr (Sum.inl (x0, (IntKind.wrap .i64 (x1 + 1)), x3, x4, x5, x6, x7, x8)))))
noncomputable def f_sl01Field_run9 (x : (Int × Int × Int × Int × Int × (Nat → Int) × (Nat → Bool) × (Nat → Bool) × (List Int) × (List Int))) : Option ((Int × Int × Int × Int × (Nat → Int) × (Nat → Bool) × (Nat → Bool) × (List Int)) ⊕ (Nat → Bool)) := iter (fun x => f_sl01Field_n9 x.1 x.2.1 x.2.2.1 x.2.2.2.1 x.2.2.2.2.1 x.2.2.2.2.2.1 x.2.2.2.2.2.2.1 x.2.2.2.2.2.2.2.1 x.2.2.2.2.2.2.2.2.1 x.2.2.2.2.2.2.2.2.2) FU x
noncomputable def f_sl01Field_G9 (r : List A) (x : (Int × Int × Int × Int × Int × (Nat → Int) × (Nat → Bool) × (Nat → Bool) × (List Int) × (List Int))) : Prop := f_sl01Field_L r 9 (f_sl01Field_s9 x.1 x.2.1 x.2.2.1 x.2.2.2.1 x.2.2.2.2.1 x.2.2.2.2.2.1 x.2.2.2.2.2.2.1 x.2.2.2.2.2.2.2.1 x.2.2.2.2.2.2.2.2.1 x.2.2.2.2.2.2.2.2.2) = some r
theorem f_sl01Field_step5 (x0 : Int) (x1 : Int) (x2 : Int) (x3 : Int) (x4 : (Nat → Int)) (x5 : (Nat → Bool)) (x6 : (Nat → Bool)) (x7 : (List Int)) (r : List A) (h : (cond (decide (x1 < ((List.length x7 : Nat) : Int))) (cond (inB x1 (List.length x7)) (Option.bind (s_sl01Beside x2 x3 x4 (List.getD x7 (Int.toNat x1) 0)) fun r1 => (f_sl01Field_L r 9 (f_sl01Field_s9 x0 x1 0 x2 x3 x4 x5 x6 x7 r1))) none) (some [.fb 144 x6])) = some r) : f_sl01Field_L r 5 (f_sl01Field_s5 x0 x1 x2 x3 x4 x5 x6 x7) = some r :=
  step_of' h (by kernel_rfl)
noncomputable def f_sl01Field_n5 (x0 : Int) (x1 : Int) (x2 : Int) (x3 : Int) (x4 : (Nat → Int)) (x5 : (Nat → Bool)) (x6 : (Nat → Bool)) (x7 : (List Int)) : Option ((Int × Int × Int × Int × (Nat → Int) × (Nat → Bool) × (Nat → Bool) × (List Int)) ⊕ (Nat → Bool)) := (cond (decide (x1 < ((List.length x7 : Nat) : Int))) (cond (inB x1 (List.length x7)) (Option.bind (s_sl01Beside x2 x3 x4 (List.getD x7 (Int.toNat x1) 0)) fun r1 => (f_sl01Field_run9 (x0, x1, 0, x2, x3, x4, x5, x6, x7, r1))) none) (some (Sum.inr x6)))
noncomputable def f_sl01Field_run5 (x : (Int × Int × Int × Int × (Nat → Int) × (Nat → Bool) × (Nat → Bool) × (List Int))) : Option (Nat → Bool) := iter (fun x => f_sl01Field_n5 x.1 x.2.1 x.2.2.1 x.2.2.2.1 x.2.2.2.2.1 x.2.2.2.2.2.1 x.2.2.2.2.2.2.1 x.2.2.2.2.2.2.2) FU x
noncomputable def f_sl01Field_G5 (r : List A) (x : (Int × Int × Int × Int × (Nat → Int) × (Nat → Bool) × (Nat → Bool) × (List Int))) : Prop := f_sl01Field_L r 5 (f_sl01Field_s5 x.1 x.2.1 x.2.2.1 x.2.2.2.1 x.2.2.2.2.1 x.2.2.2.2.2.1 x.2.2.2.2.2.2.1 x.2.2.2.2.2.2.2) = some r
noncomputable def f_sl01Field_S5 (r : List A) : (Nat → Bool) → Prop := fun v => r = l_sl01Field v
noncomputable def f_sl01Field_S9 (r : List A) : ((Int × Int × Int × Int × (Nat → Int) × (Nat → Bool) × (Nat → Bool) × (List Int)) ⊕ (Nat → Bool)) → Prop := goesOn (f_sl01Field_G5 r) (f_sl01Field_S5 r)
theorem f_sl01Field_go9 (r : List A) : ∀ x, sem (f_sl01Field_S9 r) (f_sl01Field_run9 x) → f_sl01Field_G9 r x :=
  fun x => iter_sound (step := fun x => f_sl01Field_n9 x.1 x.2.1 x.2.2.1 x.2.2.2.1 x.2.2.2.2.1 x.2.2.2.2.2.1 x.2.2.2.2.2.2.1 x.2.2.2.2.2.2.2.1 x.2.2.2.2.2.2.2.2.1 x.2.2.2.2.2.2.2.2.2) (fun x h => by
    unfold f_sl01Field_n9 at h
    exact f_sl01Field_step9 x.1 x.2.1 x.2.2.1 x.2.2.2.1 x.2.2.2.2.1 x.2.2.2.2.2.1 x.2.2.2.2.2.2.1 x.2.2.2.2.2.2.2.1 x.2.2.2.2.2.2.2.2.1 x.2.2.2.2.2.2.2.2.2 r ((sem_cond h (fun h => (sem_cond h (fun h => (sem_cond h (fun h => (sem_cond h (fun h => (sem_cond h (fun h => (sem_cond h (fun h => (sem_cond h (fun h => (sem_cond h (fun h => (sem_cond h (fun h => (sem_cond h (fun h => (sem_cond h (fun h => (sem_cond h (fun h => sem_got h fun q => q) (fun h => sem_none h))) (fun h => sem_none h))) (fun h => sem_none h))) (fun h => sem_none h))) (fun h => sem_got h fun q => q))) (fun h => sem_none h))) (fun h => sem_none h))) (fun h => sem_none h))) (fun h => sem_got h fun q => q))) (fun h => sem_none h))) (fun h => sem_none h))) (fun h => sem_got h fun q => q)))) FU x
theorem f_sl01Field_go5 (r : List A) : ∀ x, sem (f_sl01Field_S5 r) (f_sl01Field_run5 x) → f_sl01Field_G5 r x :=
  fun x => iter_sound (step := fun x => f_sl01Field_n5 x.1 x.2.1 x.2.2.1 x.2.2.2.1 x.2.2.2.2.1 x.2.2.2.2.2.1 x.2.2.2.2.2.2.1 x.2.2.2.2.2.2.2) (fun x h => by
    unfold f_sl01Field_n5 at h
    exact f_sl01Field_step5 x.1 x.2.1 x.2.2.1 x.2.2.2.1 x.2.2.2.2.1 x.2.2.2.2.2.1 x.2.2.2.2.2.2.1 x.2.2.2.2.2.2.2 r ((sem_cond h (fun h => (sem_cond h (fun h => (sem_bind h fun r1 h => f_sl01Field_go9 r _ h)) (fun h => sem_none h))) (fun h => sem_got h fun q => some_eq q)))) FU x
noncomputable def s_sl01Field (a0 : Int) (a1 : Int) (a2 : (Nat → Int)) (a3 : Int) : Option (Nat → Bool) := (cond (inB a3 144) (f_sl01Field_run5 (a3, 0, a0, a1, a2, zB, (updb zB (Int.toNat a3) true), [a3])) none)
theorem f_sl01Field_top (a0 : Int) (a1 : Int) (a2 : (Nat → Int)) (a3 : Int) (r : List A) : ev f_sl01Field_X (lpc (cnOf f_sl01Field_LV) (f_sl01Field_L r)) f_sl01Field_c (K0 TT f_sl01Field_rv) (enter [.ref (.rc [.v (.int .i8 a0), .v (.int .i8 a1), .fa 144 .u8 a2]), .v (.int .i64 a3)]) = (cond (inB a3 144) (f_sl01Field_L r 5 (f_sl01Field_s5 a3 0 a0 a1 a2 zB (updb zB (Int.toNat a3) true) [a3])) none) := by kernel_rfl
theorem s_sl01Field_ok (a0 : Int) (a1 : Int) (a2 : (Nat → Int)) (a3 : Int) (v : (Nat → Bool)) (h : s_sl01Field a0 a1 a2 a3 = some v) : (cond (inB a3 144) (f_sl01Field_L (l_sl01Field v) 5 (f_sl01Field_s5 a3 0 a0 a1 a2 zB (updb zB (Int.toNat a3) true) [a3])) none) = some (l_sl01Field v) := by
  unfold s_sl01Field at h
  have go : ∀ r, sem (fun v => r = l_sl01Field v) ((cond (inB a3 144) (f_sl01Field_run5 (a3, 0, a0, a1, a2, zB, (updb zB (Int.toNat a3) true), [a3])) none)) → (cond (inB a3 144) (f_sl01Field_L r 5 (f_sl01Field_s5 a3 0 a0 a1 a2 zB (updb zB (Int.toNat a3) true) [a3])) none) = some r := fun r h => (sem_cond h (fun h => f_sl01Field_go5 r _ h) (fun h => sem_none h))
  exact go (l_sl01Field v) ⟨v, h, rfl⟩
noncomputable def c_sl01Field : List A → ACall
  | [.ref (.rc [.v (.int .i8 a0), .v (.int .i8 a1), .fa 144 .u8 a2]), .v (.int .i64 a3)] => ⟨(Nat → Bool), s_sl01Field a0 a1 a2 a3, fun r => .one (.fb 144 r)⟩
  | _ => ACall.fail
theorem f_sl01Field_sound : Sound Try.prog 185 c_sl01Field := by
  refine sound_good f_sl01Field_ctx f_sl01Field_LV 2 Try.func185 (c := f_sl01Field_c) (by kernel_rfl) (rv := f_sl01Field_rv) (by kernel_rfl) (by kernel_rfl) (by kernel_rfl) (by kernel_rfl) fun rs => ?_
  unfold c_sl01Field
  split
  · rename_i a0 a1 a2 a3; intro v h; exact ⟨rfl, l_sl01Field v, rfl, (f_sl01Field_top a0 a1 a2 a3 _).trans (s_sl01Field_ok a0 a1 a2 a3 v h)⟩
  · intro v h; cases h

/-! ### function 142: (loop.example/g01322/impl.Picture).fields -/
noncomputable def f_iPicture_fields_c : Code := match Try.f142.body with | some c => c | none => .skip
noncomputable def f_iPicture_fields_X : Ctx := ⟨TT, phiOf [(160, c_iPicture_has), (188, c_iPicture_field)], noPsi, noXi⟩
def f_iPicture_fields_LV : List (Nat × Keep) := [(3, ([1, 3, 4, 11], [], [])), (8, ([1, 3, 4, 6, 11, 32, 33, 34], [], []))]
def f_iPicture_fields_rv : List ResultVar := [.tmp 2]
noncomputable def f_iPicture_fields_L (r : List A) : Nat → AS → Option (List A) := L f_iPicture_fields_X (cnOf f_iPicture_fields_LV) f_iPicture_fields_c (K0 TT f_iPicture_fields_rv) r
theorem f_iPicture_fields_ctx : CtxOK Try.prog f_iPicture_fields_X := ctx_of tab mix ⟨⟨Try.call160, f_iPicture_has_sound⟩, ⟨Try.call188, f_iPicture_field_sound⟩, trivial⟩
noncomputable def f_iPicture_fields_s3 (x0 : Int) (x1 : Int) (x2 : Int) (x3 : (Nat → Int)) (x4 : (List (List Int))) (x5 : (Nat → Bool)) : AS := ⟨[(1, .a (.ptr 0 [] (0))), (3, .a (.sl 1)), (4, .a (.ptr 2 [] (0))), (11, .a (.v (.int .i64 x0)))], [(0, some ⟨true, .box (.rc [.v (.int .i8 x1), .v (.int .i8 x2), .fa 144 .u8 x3])⟩), (1, some ⟨true, .arr (.one (.ls .i64)) x4⟩), (2, some ⟨true, .box (.fb 144 x5)⟩)], 3⟩
noncomputable def f_iPicture_fields_s8 (x0 : Int) (x1 : Int) (x2 : Int) (x3 : Int) (x4 : Int) (x5 : (Nat → Int)) (x6 : (List (List Int))) (x7 : (Nat → Bool)) (x8 : (List Int)) : AS := ⟨[(1, .a (.ptr 0 [] (0))), (3, .a (.sl 1)), (4, .a (.ptr 2 [] (0))), (6, .a (.sl 3)), (11, .a (.v (.int .i64 x0))), (32, .a (.sl 3)), (33, .a (.v (.int .i64 x1))), (34, .a (.v (.int .i64 x2)))], [(0, some ⟨true, .box (.rc [.v (.int .i8 x3), .v (.int .i8 x4), .fa 144 .u8 x5])⟩), (1, some ⟨true, .arr (.one (.ls .i64)) x6⟩), (2, some ⟨true, .box (.fb 144 x7)⟩), (3, some ⟨true, .arr (.one (.i .i64)) x8⟩)], 4⟩
noncomputable def l_iPicture_fields (r : (List (List Int))) : List A := [.lst (.one (.ls .i64)) r]
theorem f_iPicture_fields_step8 (x0 : Int) (x1 : Int) (x2 : Int) (x3 : Int) (x4 : Int) (x5 : (Nat → Int)) (x6 : (List (List Int))) (x7 : (Nat → Bool)) (x8 : (List Int)) (r : List A) (h : (cond (decide (x2 < x1)) (cond (inB x2 (List.length x8)) (cond (inB (List.getD x8 (Int.toNat x2) 0) 144) (f_iPicture_fields_L r 8 (f_iPicture_fields_s8 x0 x1 (IntKind.wrap .i64 (x2 + 1)) x3 x4 x5 x6 (updb x7 (Int.toNat (List.getD x8 (Int.toNat x2) 0)) true) x8)) none) none) (cond (fits ((List.length (x6 : List (List Int)) + List.length ([x8] : List (List Int))) * 24)) (f_iPicture_fields_L r 3 (f_iPicture_fields_s3 (IntKind.wrap .i64 (x0 + 1)) x3 x4 x5 (x6 ++ [x8]) x7)) none)) = some r) : f_iPicture_fields_L r 8 (f_iPicture_fields_s8 x0 x1 x2 x3 x4 x5 x6 x7 x8) = some r :=
  step_of' h (by kernel_rfl)
noncomputable def f_iPicture_fields_n8 (x0 : Int) (x1 : Int) (x2 : Int) (x3 : Int) (x4 : Int) (x5 : (Nat → Int)) (x6 : (List (List Int))) (x7 : (Nat → Bool)) (x8 : (List Int)) : Option ((Int × Int × Int × Int × Int × (Nat → Int) × (List (List Int)) × (Nat → Bool) × (List Int)) ⊕ ((Int × Int × Int × (Nat → Int) × (List (List Int)) × (Nat → Bool)) ⊕ (List (List Int)))) := (cond (decide (x2 < x1)) (cond (inB x2 (List.length x8)) (cond (inB (List.getD x8 (Int.toNat x2) 0) 144) (some (Sum.inl (x0, x1, (IntKind.wrap .i64 (x2 + 1)), x3, x4, x5, x6, (updb x7 (Int.toNat (List.getD x8 (Int.toNat x2) 0)) true), x8))) none) none) (cond (fits ((List.length (x6 : List (List Int)) + List.length ([x8] : List (List Int))) * 24)) (some (Sum.inr (Sum.inl ((IntKind.wrap .i64 (x0 + 1)), x3, x4, x5, (x6 ++ [x8]), x7)))) none))
noncomputable def f_iPicture_fields_run8 (x : (Int × Int × Int × Int × Int × (Nat → Int) × (List (List Int)) × (Nat → Bool) × (List Int))) : Option ((Int × Int × Int × (Nat → Int) × (List (List Int)) × (Nat → Bool)) ⊕ (List (List Int))) := iter (fun x => f_iPicture_fields_n8 x.1 x.2.1 x.2.2.1 x.2.2.2.1 x.2.2.2.2.1 x.2.2.2.2.2.1 x.2.2.2.2.2.2.1 x.2.2.2.2.2.2.2.1 x.2.2.2.2.2.2.2.2) FU x
noncomputable def f_iPicture_fields_G8 (r : List A) (x : (Int × Int × Int × Int × Int × (Nat → Int) × (List (List Int)) × (Nat → Bool) × (List Int))) : Prop := f_iPicture_fields_L r 8 (f_iPicture_fields_s8 x.1 x.2.1 x.2.2.1 x.2.2.2.1 x.2.2.2.2.1 x.2.2.2.2.2.1 x.2.2.2.2.2.2.1 x.2.2.2.2.2.2.2.1 x.2.2.2.2.2.2.2.2) = some r
theorem f_iPicture_fields_step3 (x0 : Int) (x1 : Int) (x2 : Int) (x3 : (Nat → Int)) (x4 : (List (List Int))) (x5 : (Nat → Bool)) (r : List A) (h : (cond (decide (x0 < 144)) (cond (!(s_iPicture_has x1 x2 x3 (Int.tmod x0 12) (IntKind.wrap .i64 (Int.tdiv x0 12)))) (f_iPicture_fields_L r 3 (f_iPicture_fields_s3 (IntKind.wrap .i64 (x0 + 1)) x1 x2 x3 x4 x5)) (cond (inB x0 144) (cond (x5 (Int.toNat x0)) (f_iPicture_fields_L r 3 (f_iPicture_fields_s3 (IntKind.wrap .i64 (x0 + 1)) x1 x2 x3 x4 x5)) (Option.bind (s_iPicture_field x1 x2 x3 (Int.tmod x0 12) (IntKind.wrap .i64 (Int.tdiv x0 12))) fun r1 => (f_iPicture_fields_L r 8 (f_iPicture_fields_s8 x0 ((List.length r1 : Nat) : Int) 0 x1 x2 x3 x4 x5 r1)))) none)) (some [.lst (.one (.ls .i64)) x4])) = some r) : f_iPicture_fields_L r 3 (f_iPicture_fields_s3 x0 x1 x2 x3 x4 x5) = some r :=
  step_of' h (by kernel_rfl)
noncomputable def f_iPicture_fields_n3 (x0 : Int) (x1 : Int) (x2 : Int) (x3 : (Nat → Int)) (x4 : (List (List Int))) (x5 : (Nat → Bool)) : Option ((Int × Int × Int × (Nat → Int) × (List (List Int)) × (Nat → Bool)) ⊕ (List (List Int))) := (cond (decide (x0 < 144)) (cond (!(s_iPicture_has x1 x2 x3 (Int.tmod x0 12) (IntKind.wrap .i64 (Int.tdiv x0 12)))) (some (Sum.inl ((IntKind.wrap .i64 (x0 + 1)), x1, x2, x3, x4, x5))) (cond (inB x0 144) (cond (x5 (Int.toNat x0)) (some (Sum.inl ((IntKind.wrap .i64 (x0 + 1)), x1, x2, x3, x4, x5))) (Option.bind (s_iPicture_field x1 x2 x3 (Int.tmod x0 12) (IntKind.wrap .i64 (Int.tdiv x0 12))) fun r1 => (f_iPicture_fields_run8 (x0, ((List.length r1 : Nat) : Int), 0, x1, x2, x3, x4, x5, r1)))) none)) (some (Sum.inr x4)))
noncomputable def f_iPicture_fields_run3 (x : (Int × Int × Int × (Nat → Int) × (List (List Int)) × (Nat → Bool))) : Option (List (List Int)) := iter (fun x => f_iPicture_fields_n3 x.1 x.2.1 x.2.2.1 x.2.2.2.1 x.2.2.2.2.1 x.2.2.2.2.2) FU x
noncomputable def f_iPicture_fields_G3 (r : List A) (x : (Int × Int × Int × (Nat → Int) × (List (List Int)) × (Nat → Bool))) : Prop := f_iPicture_fields_L r 3 (f_iPicture_fields_s3 x.1 x.2.1 x.2.2.1 x.2.2.2.1 x.2.2.2.2.1 x.2.2.2.2.2) = some r
noncomputable def f_iPicture_fields_S3 (r : List A) : (List (List Int)) → Prop := fun v => r = l_iPicture_fields v
noncomputable def f_iPicture_fields_S8 (r : List A) : ((Int × Int × Int × (Nat → Int) × (List (List Int)) × (Nat → Bool)) ⊕ (List (List Int))) → Prop := goesOn (f_iPicture_fields_G3 r) (f_iPicture_fields_S3 r)
theorem f_iPicture_fields_go8 (r : List A) : ∀ x, sem (f_iPicture_fields_S8 r) (f_iPicture_fields_run8 x) → f_iPicture_fields_G8 r x :=
  fun x => iter_sound (step := fun x => f_iPicture_fields_n8 x.1 x.2.1 x.2.2.1 x.2.2.2.1 x.2.2.2.2.1 x.2.2.2.2.2.1 x.2.2.2.2.2.2.1 x.2.2.2.2.2.2.2.1 x.2.2.2.2.2.2.2.2) (fun x h => by
    unfold f_iPicture_fields_n8 at h
    exact f_iPicture_fields_step8 x.1 x.2.1 x.2.2.1 x.2.2.2.1 x.2.2.2.2.1 x.2.2.2.2.2.1 x.2.2.2.2.2.2.1 x.2.2.2.2.2.2.2.1 x.2.2.2.2.2.2.2.2 r ((sem_cond h (fun h => (sem_cond h (fun h => (sem_cond h (fun h => sem_got h fun q => q) (fun h => sem_none h))) (fun h => sem_none h))) (fun h => (sem_cond h (fun h => sem_got h fun q => q) (fun h => sem_none h)))))) FU x
theorem f_iPicture_fields_go3 (r : List A) : ∀ x, sem (f_iPicture_fields_S3 r) (f_iPicture_fields_run3 x) → f_iPicture_fields_G3 r x :=
  fun x => iter_sound (step := fun x => f_iPicture_fields_n3 x.1 x.2.1 x.2.2.1 x.2.2.2.1 x.2.2.2.2.1 x.2.2.2.2.2) (fun x h => by
    unfold f_iPicture_fields_n3 at h
    exact f_iPicture_fields_step3 x.1 x.2.1 x.2.2.1 x.2.2.2.1 x.2.2.2.2.1 x.2.2.2.2.2 r ((sem_cond h (fun h => (sem_cond h (fun h => sem_got h fun q => q) (fun h => (sem_cond h (fun h => (sem_cond h (fun h => sem_got h fun q => q) (fun h => (sem_bind h fun r1 h => f_iPicture_fields_go8 r _ h)))) (fun h => sem_none h))))) (fun h => sem_got h fun q => some_eq q)))) FU x
noncomputable def s_iPicture_fields (a0 : Int) (a1 : Int) (a2 : (Nat → Int)) : Option (List (List Int)) := (f_iPicture_fields_run3 (0, a0, a1, a2, [], zB))
theorem f_iPicture_fields_top (a0 : Int) (a1 : Int) (a2 : (Nat → Int)) (r : List A) : ev f_iPicture_fields_X (lpc (cnOf f_iPicture_fields_LV) (f_iPicture_fields_L r)) f_iPicture_fields_c (K0 TT f_iPicture_fields_rv) (enter [.rc [.v (.int .i8 a0), .v (.int .i8 a1), .fa 144 .u8 a2]]) = (f_iPicture_fields_L r 3 (f_iPicture_fields_s3 0 a0 a1 a2 [] zB)) := by kernel_rfl
theorem s_iPicture_fields_ok (a0 : Int) (a1 : Int) (a2 : (Nat → Int)) (v : (List (List Int))) (h : s_iPicture_fields a0 a1 a2 = some v) : (f_iPicture_fields_L (l_iPicture_fields v) 3 (f_iPicture_fields_s3 0 a0 a1 a2 [] zB)) = some (l_iPicture_fields v) := by
  unfold s_iPicture_fields at h
  have go : ∀ r, sem (fun v => r = l_iPicture_fields v) ((f_iPicture_fields_run3 (0, a0, a1, a2, [], zB))) → (f_iPicture_fields_L r 3 (f_iPicture_fields_s3 0 a0 a1 a2 [] zB)) = some r := fun r h => f_iPicture_fields_go3 r _ h
  exact go (l_iPicture_fields v) ⟨v, h, rfl⟩
noncomputable def c_iPicture_fields : List A → ACall
  | [.rc [.v (.int .i8 a0), .v (.int .i8 a1), .fa 144 .u8 a2]] => ⟨(List (List Int)), s_iPicture_fields a0 a1 a2, fun r => .one (.lst (.one (.ls .i64)) r)⟩
  | _ => ACall.fail
theorem f_iPicture_fields_sound : Sound Try.prog 142 c_iPicture_fields := by
  refine sound_good f_iPicture_fields_ctx f_iPicture_fields_LV 1 Try.func142 (c := f_iPicture_fields_c) (by kernel_rfl) (rv := f_iPicture_fields_rv) (by kernel_rfl) (by kernel_rfl) (by kernel_rfl) (by kernel_rfl) fun rs => ?_
  unfold c_iPicture_fields
  split
  · rename_i a0 a1 a2; intro v h; exact ⟨rfl, l_iPicture_fields v, rfl, (f_iPicture_fields_top a0 a1 a2 _).trans (s_iPicture_fields_ok a0 a1 a2 v h)⟩
  · intro v h; cases h

/-! ### function 138: loop.example/g01322/spec.l01Fields -/
noncomputable def f_sl01Fields_c : Code := match Try.f138.body with | some c => c | none => .skip
noncomputable def f_sl01Fields_X : Ctx := ⟨TT, phiOf [(185, c_sl01Field), (186, c_sl01Listed), (94, c_sl01Is)], noPsi, noXi⟩
def f_sl01Fields_LV : List (Nat × Keep) := [(4, ([0, 3, 4, 5], [], [])), (9, ([0, 3, 4, 5, 6, 7], [], []))]
def f_sl01Fields_rv : List ResultVar := [.tmp 2]
noncomputable def f_sl01Fields_L (r : List A) : Nat → AS → Option (List A) := L f_sl01Fields_X (cnOf f_sl01Fields_LV) f_sl01Fields_c (K0 TT f_sl01Fields_rv) r
theorem f_sl01Fields_ctx : CtxOK Try.prog f_sl01Fields_X := ctx_of tab mix ⟨⟨Try.call185, f_sl01Field_sound⟩, ⟨Try.call186, f_sl01Listed_sound⟩, ⟨Try.call94, f_sl01Is_sound⟩, trivial⟩
noncomputable def f_sl01Fields_s4 (x0 : Int) (x1 : Int) (x2 : Int) (x3 : (Nat → Int)) (x4 : (List (List Int))) (x5 : (Nat → Bool)) : AS := ⟨[(0, .a (.ptr 0 [] (0))), (3, .a (.sl 1)), (4, .a (.ptr 2 [] (0))), (5, .a (.v (.int .i64 x0)))], [(0, some ⟨false, .box (.rc [.v (.int .i8 x1), .v (.int .i8 x2), .fa 144 .u8 x3])⟩), (1, some ⟨true, .arr (.one (.ls .i64)) x4⟩), (2, some ⟨true, .box (.fb 144 x5)⟩)], 3⟩
noncomputable def f_sl01Fields_s9 (x0 : Int) (x1 : Int) (x2 : Int) (x3 : Int) (x4 : (Nat → Int)) (x5 : (List (List Int))) (x6 : (Nat → Bool)) (x7 : (Nat → Bool)) : AS := ⟨[(0, .a (.ptr 0 [] (0))), (3, .a (.sl 1)), (4, .a (.ptr 2 [] (0))), (5, .a (.v (.int .i64 x0))), (6, .a (.ptr 3 [] (0))), (7, .a (.v (.int .i64 x1)))], [(0, some ⟨false, .box (.rc [.v (.int .i8 x2), .v (.int .i8 x3), .fa 144 .u8 x4])⟩), (1, some ⟨true, .arr (.one (.ls .i64)) x5⟩), (2, some ⟨true, .box (.fb 144 x6)⟩), (3, some ⟨true, .box (.fb 144 x7)⟩)], 4⟩
noncomputable def l_sl01Fields (r : (List (List Int))) : List A := [.lst (.one (.ls .i64)) r]
theorem f_sl01Fields_step9 (x0 : Int) (x1 : Int) (x2 : Int) (x3 : Int) (x4 : (Nat → Int)) (x5 : (List (List Int))) (x6 : (Nat → Bool)) (x7 : (Nat → Bool)) (r : List A) (h : (cond (decide (x1 < 144)) (cond (inB x1 144) (cond (x6 (Int.toNat x1)) (cond (inB x1 144) (f_sl01Fields_L r 9 (f_sl01Fields_s9 x0 (IntKind.wrap .i64 (x1 + 1)) x2 x3 x4 x5 (updb x6 (Int.toNat x1) true) x7)) none) (cond (inB x1 144) (cond (inB x1 144) (f_sl01Fields_L r 9 (f_sl01Fields_s9 x0 (IntKind.wrap .i64 (x1 + 1)) x2 x3 x4 x5 (updb x6 (Int.toNat x1) (x7 (Int.toNat x1))) x7)) none) none)) none) (Option.bind (s_sl01Listed x7) fun r2 => (cond (fits ((List.length (x5 : List (List Int)) + List.length ([r2] : List (List Int))) * 24)) (f_sl01Fields_L r 4 (f_sl01Fields_s4 (IntKind.wrap .i64 (x0 + 1)) x2 x3 x4 (x5 ++ [r2]) x6)) none))) = some r) : f_sl01Fields_L r 9 (f_sl01Fields_s9 x0 x1 x2 x3 x4 x5 x6 x7) = some r :=
  step_of' h (by kernel_rfl)
noncomputable def f_sl01Fields_n9 (x0 : Int) (x1 : Int) (x2 : Int) (x3 : Int) (x4 : (Nat → Int)) (x5 : (List (List Int))) (x6 : (Nat → Bool)) (x7 : (Nat → Bool)) : Option ((Int × Int × Int × Int × (Nat → Int) × (List (List Int)) × (Nat → Bool) × (Nat → Bool)) ⊕ ((Int × Int × Int × (Nat → Int) × (List (List Int)) × (Nat → Bool)) ⊕ (List (List Int)))) := (cond (decide (x1 < 144)) (cond (inB x1 144) (cond (x6 (Int.toNat x1)) (cond (inB x1 144) (some (Sum.inl (x0, (IntKind.wrap .i64 (x1 + 1)), x2, x3, x4, x5, (updb x6 (Int.toNat x1) true), x7))) none) (cond (inB x1 144) (cond (inB x1 144) (some (Sum.inl (x0, (IntKind.wrap .i64 (x1 + 1)), x2, x3, x4, x5, (updb x6 (Int.toNat x1) (x7 (Int.toNat x1))), x7))) none) none)) none) (Option.bind (s_sl01Listed x7) fun r2 => (cond (fits ((List.length (x5 : List (List Int)) + List.length ([r2] : List (List Int))) * 24)) (some (Sum.inr (Sum.inl ((IntKind.wrap .i64 (x0 + 1)), x2, x3, x4, (x5 ++ [r2]), x6)))) none)))
noncomputable def f_sl01Fields_run9 (x : (Int × Int × Int × Int × (Nat → Int) × (List (List Int)) × (Nat → Bool) × (Nat → Bool))) : Option ((Int × Int × Int × (Nat → Int) × (List (List Int)) × (Nat → Bool)) ⊕ (List (List Int))) := iter (fun x => f_sl01Fields_n9 x.1 x.2.1 x.2.2.1 x.2.2.2.1 x.2.2.2.2.1 x.2.2.2.2.2.1 x.2.2.2.2.2.2.1 x.2.2.2.2.2.2.2) FU x
noncomputable def f_sl01Fields_G9 (r : List A) (x : (Int × Int × Int × Int × (Nat → Int) × (List (List Int)) × (Nat → Bool) × (Nat → Bool))) : Prop := f_sl01Fields_L r 9 (f_sl01Fields_s9 x.1 x.2.1 x.2.2.1 x.2.2.2.1 x.2.2.2.2.1 x.2.2.2.2.2.1 x.2.2.2.2.2.2.1 x.2.2.2.2.2.2.2) = some r
theorem f_sl01Fields_step4 (x0 : Int) (x1 : Int) (x2 : Int) (x3 : (Nat → Int)) (x4 : (List (List Int))) (x5 : (Nat → Bool)) (r : List A) (h : (cond (decide (x0 < 144)) (cond (!(s_sl01Is x1 x2 x3 x0)) (f_sl01Fields_L r 4 (f_sl01Fields_s4 (IntKind.wrap .i64 (x0 + 1)) x1 x2 x3 x4 x5)) (cond (inB x0 144) (cond (x5 (Int.toNat x0)) (f_sl01Fields_L r 4 (f_sl01Fields_s4 (IntKind.wrap .i64 (x0 + 1)) x1 x2 x3 x4 x5)) (Option.bind (s_sl01Field x1 x2 x3 x0) fun r1 => (f_sl01Fields_L r 9 (f_sl01Fields_s9 x0 0 x1 x2 x3 x4 x5 r1)))) none)) (some [.lst (.one (.ls .i64)) x4])) = some r) : f_sl01Fields_L r 4 (f_sl01Fields_s4 x0 x1 x2 x3 x4 x5) = some r :=
  step_of' h (by kernel_rfl)
noncomputable def f_sl01Fields_n4 (x0 : Int) (x1 : Int) (x2 : Int) (x3 : (Nat → Int)) (x4 : (List (List Int))) (x5 : (Nat → Bool)) : Option ((Int × Int × Int × (Nat → Int) × (List (List Int)) × (Nat → Bool)) ⊕ (List (List Int))) := (cond (decide (x0 < 144)) (cond (!(s_sl01Is x1 x2 x3 x0)) (some (Sum.inl ((IntKind.wrap .i64 (x0 + 1)), x1, x2, x3, x4, x5))) (cond (inB x0 144) (cond (x5 (Int.toNat x0)) (some (Sum.inl ((IntKind.wrap .i64 (x0 + 1)), x1, x2, x3, x4, x5))) (Option.bind (s_sl01Field x1 x2 x3 x0) fun r1 => (f_sl01Fields_run9 (x0, 0, x1, x2, x3, x4, x5, r1)))) none)) (some (Sum.inr x4)))
noncomputable def f_sl01Fields_run4 (x : (Int × Int × Int × (Nat → Int) × (List (List Int)) × (Nat → Bool))) : Option (List (List Int)) := iter (fun x => f_sl01Fields_n4 x.1 x.2.1 x.2.2.1 x.2.2.2.1 x.2.2.2.2.1 x.2.2.2.2.2) FU x
noncomputable def f_sl01Fields_G4 (r : List A) (x : (Int × Int × Int × (Nat → Int) × (List (List Int)) × (Nat → Bool))) : Prop := f_sl01Fields_L r 4 (f_sl01Fields_s4 x.1 x.2.1 x.2.2.1 x.2.2.2.1 x.2.2.2.2.1 x.2.2.2.2.2) = some r
noncomputable def f_sl01Fields_S4 (r : List A) : (List (List Int)) → Prop := fun v => r = l_sl01Fields v
noncomputable def f_sl01Fields_S9 (r : List A) : ((Int × Int × Int × (Nat → Int) × (List (List Int)) × (Nat → Bool)) ⊕ (List (List Int))) → Prop := goesOn (f_sl01Fields_G4 r) (f_sl01Fields_S4 r)
theorem f_sl01Fields_go9 (r : List A) : ∀ x, sem (f_sl01Fields_S9 r) (f_sl01Fields_run9 x) → f_sl01Fields_G9 r x :=
  fun x => iter_sound (step := fun x => f_sl01Fields_n9 x.1 x.2.1 x.2.2.1 x.2.2.2.1 x.2.2.2.2.1 x.2.2.2.2.2.1 x.2.2.2.2.2.2.1 x.2.2.2.2.2.2.2) (fun x h => by
    unfold f_sl01Fields_n9 at h
    exact f_sl01Fields_step9 x.1 x.2.1 x.2.2.1 x.2.2.2.1 x.2.2.2.2.1 x.2.2.2.2.2.1 x.2.2.2.2.2.2.1 x.2.2.2.2.2.2.2 r ((sem_cond h (fun h => (sem_cond h (fun h => (sem_cond h (fun h => (sem_cond h (fun h => sem_got h fun q => q) (fun h => sem_none h))) (fun h => (sem_cond h (fun h => (sem_cond h (fun h => sem_got h fun q => q) (fun h => sem_none h))) (fun h => sem_none h))))) (fun h => sem_none h))) (fun h => (sem_bind h fun r2 h => (sem_cond h (fun h => sem_got h fun q => q) (fun h => sem_none h))))))) FU x
theorem f_sl01Fields_go4 (r : List A) : ∀ x, sem (f_sl01Fields_S4 r) (f_sl01Fields_run4 x) → f_sl01Fields_G4 r x :=
  fun x => iter_sound (step := fun x => f_sl01Fields_n4 x.1 x.2.1 x.2.2.1 x.2.2.2.1 x.2.2.2.2.1 x.2.2.2.2.2) (fun x h => by
    unfold f_sl01Fields_n4 at h
    exact f_sl01Fields_step4 x.1 x.2.1 x.2.2.1 x.2.2.2.1 x.2.2.2.2.1 x.2.2.2.2.2 r ((sem_cond h (fun h => (sem_cond h (fun h => sem_got h fun q => q) (fun h => (sem_cond h (fun h => (sem_cond h (fun h => sem_got h fun q => q) (fun h => (sem_bind h fun r1 h => f_sl01Fields_go9 r _ h)))) (fun h => sem_none h))))) (fun h => sem_got h fun q => some_eq q)))) FU x
noncomputable def s_sl01Fields (a0 : Int) (a1 : Int) (a2 : (Nat → Int)) : Option (List (List Int)) := (f_sl01Fields_run4 (0, a0, a1, a2, [], zB))
theorem f_sl01Fields_top (a0 : Int) (a1 : Int) (a2 : (Nat → Int)) (r : List A) : ev f_sl01Fields_X (lpc (cnOf f_sl01Fields_LV) (f_sl01Fields_L r)) f_sl01Fields_c (K0 TT f_sl01Fields_rv) (enter [.ref (.rc [.v (.int .i8 a0), .v (.int .i8 a1), .fa 144 .u8 a2])]) = (f_sl01Fields_L r 4 (f_sl01Fields_s4 0 a0 a1 a2 [] zB)) := by kernel_rfl
theorem s_sl01Fields_ok (a0 : Int) (a1 : Int) (a2 : (Nat → Int)) (v : (List (List Int))) (h : s_sl01Fields a0 a1 a2 = some v) : (f_sl01Fields_L (l_sl01Fields v) 4 (f_sl01Fields_s4 0 a0 a1 a2 [] zB)) = some (l_sl01Fields v) := by
  unfold s_sl01Fields at h
  have go : ∀ r, sem (fun v => r = l_sl01Fields v) ((f_sl01Fields_run4 (0, a0, a1, a2, [], zB))) → (f_sl01Fields_L r 4 (f_sl01Fields_s4 0 a0 a1 a2 [] zB)) = some r := fun r h => f_sl01Fields_go4 r _ h
  exact go (l_sl01Fields v) ⟨v, h, rfl⟩
noncomputable def c_sl01Fields : List A → ACall
  | [.ref (.rc [.v (.int .i8 a0), .v (.int .i8 a1), .fa 144 .u8 a2])] => ⟨(List (List Int)), s_sl01Fields a0 a1 a2, fun r => .one (.lst (.one (.ls .i64)) r)⟩
  | _ => ACall.fail
theorem f_sl01Fields_sound : Sound Try.prog 138 c_sl01Fields := by
  refine sound_good f_sl01Fields_ctx f_sl01Fields_LV 1 Try.func138 (c := f_sl01Fields_c) (by kernel_rfl) (rv := f_sl01Fields_rv) (by kernel_rfl) (by kernel_rfl) (by kernel_rfl) (by kernel_rfl) fun rs => ?_
  unfold c_sl01Fields
  split
  · rename_i a0 a1 a2; intro v h; exact ⟨rfl, l_sl01Fields v, rfl, (f_sl01Fields_top a0 a1 a2 _).trans (s_sl01Fields_ok a0 a1 a2 v h)⟩
  · intro v h; cases h
end Go.RR
