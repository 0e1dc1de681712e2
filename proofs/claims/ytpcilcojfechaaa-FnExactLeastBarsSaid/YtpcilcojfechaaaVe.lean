/- Bars: what is used, what has room, what is put. -/
import Derived.Test.YtpcilcojfechaaaVd
set_option linter.unusedVariables false
set_option linter.unusedSimpArgs false
set_option linter.unusedSectionVars false
set_option maxRecDepth 100000
namespace Go.RR
open Go Go.Proofs

/-! ### function 60: loop.example/g01322/impl.useOf -/
noncomputable def f_iuseOf_c := codeC Try.f60
noncomputable def f_iuseOf_X : Ctx := ⟨TT, phiOf [], noPsi, noXi⟩
def f_iuseOf_LV : List (Nat × Keep) := [(5, ([0, 7, 18, 19, 20], [], []))]
def f_iuseOf_rv : List ResultVar := [.tmp 6]
noncomputable def f_iuseOf_L := Lq f_iuseOf_X f_iuseOf_LV f_iuseOf_c f_iuseOf_rv
theorem f_iuseOf_ctx : CtxOK Try.prog f_iuseOf_X := ctx_of tab mix trivial
noncomputable def f_iuseOf_s5 (x0 : Int) (x1 : Int) (x2 : Int) (x3 : (List Int)) (x4 : (List Int)) : AS := ⟨[(0, .a (.sl 0)), (7, .a (.v (.int .i64 x0))), (18, .a (.sl 1)), (19, .a (.v (.int .i64 x1))), (20, .a (.v (.int .i64 x2)))], [(0, some ⟨false, .arr (.one (.i .i64)) x3⟩), (1, some ⟨false, .arr (.one (.i .i64)) x4⟩)], 2⟩
noncomputable def l_iuseOf (r : Int) : List A := [.v (.int .i64 r)]
theorem f_iuseOf_step5 (x0 : Int) (x1 : Int) (x2 : Int) (x3 : (List Int)) (x4 : (List Int)) (r : List A) (h : (cond (decide (x2 < x1)) (cond (inB x2 (List.length x4)) (cond (inB (List.getD x4 (Int.toNat x2) 0) (List.length x3)) (f_iuseOf_L r 5 (f_iuseOf_s5 (IntKind.wrap .i64 (x0 + (List.getD x3 (Int.toNat (List.getD x4 (Int.toNat x2) 0)) 0))) x1 (IntKind.wrap .i64 (x2 + 1)) x3 x4)) none) none) (some [.v (.int .i64 x0)])) = some r) : f_iuseOf_L r 5 (f_iuseOf_s5 x0 x1 x2 x3 x4) = some r :=
  step_of' h (by kernel_rfl)
noncomputable def f_iuseOf_n5 (x0 : Int) (x1 : Int) (x2 : Int) (x3 : (List Int)) (x4 : (List Int)) : Option ((Int × Int × Int × (List Int) × (List Int)) ⊕ Int) := (cond (decide (x2 < x1)) (cond (inB x2 (List.length x4)) (cond (inB (List.getD x4 (Int.toNat x2) 0) (List.length x3)) (some (Sum.inl ((IntKind.wrap .i64 (x0 + (List.getD x3 (Int.toNat (List.getD x4 (Int.toNat x2) 0)) 0))), x1, (IntKind.wrap .i64 (x2 + 1)), x3, x4))) none) none) (some (Sum.inr x0)))
noncomputable def f_iuseOf_run5 (x : (Int × Int × Int × (List Int) × (List Int))) : Option Int := iter (fun x => f_iuseOf_n5 x.1 x.2.1 x.2.2.1 x.2.2.2.1 x.2.2.2.2) FU x
noncomputable def f_iuseOf_G5 (r : List A) (x : (Int × Int × Int × (List Int) × (List Int))) : Prop := f_iuseOf_L r 5 (f_iuseOf_s5 x.1 x.2.1 x.2.2.1 x.2.2.2.1 x.2.2.2.2) = some r
noncomputable def f_iuseOf_S5 (r : List A) : Int → Prop := fun v => r = l_iuseOf v
theorem f_iuseOf_go5 (r : List A) : ∀ x, sem (f_iuseOf_S5 r) (f_iuseOf_run5 x) → f_iuseOf_G5 r x :=
  fun x => iter_sound (step := fun x => f_iuseOf_n5 x.1 x.2.1 x.2.2.1 x.2.2.2.1 x.2.2.2.2) (fun x h => by
    unfold f_iuseOf_n5 at h
    exact f_iuseOf_step5 x.1 x.2.1 x.2.2.1 x.2.2.2.1 x.2.2.2.2 r ((sem_cond h (fun h => (sem_cond h (fun h => (sem_cond h (fun h => sem_got h fun q => q) (fun h => sem_none h))) (fun h => sem_none h))) (fun h => sem_got h fun q => some_eq q)))) FU x
noncomputable def s_iuseOf (a0 : (List Int)) (a1 : Int) (a2 : (List Int)) : Option Int := (cond (((List.length a2 : Nat) : Int) == 0) (some 0) (f_iuseOf_run5 ((IntKind.wrap .i64 ((IntKind.wrap .i64 (((List.length a2 : Nat) : Int) - 1)) * a1)), ((List.length a2 : Nat) : Int), 0, a0, a2)))
theorem f_iuseOf_top (a0 : (List Int)) (a1 : Int) (a2 : (List Int)) (r : List A) : Tq f_iuseOf_X f_iuseOf_LV f_iuseOf_c f_iuseOf_rv r [.lst (.one (.i .i64)) a0, .v (.int .i64 a1), .lst (.one (.i .i64)) a2] = (cond (((List.length a2 : Nat) : Int) == 0) (some [.v (.int .i64 0)]) (f_iuseOf_L r 5 (f_iuseOf_s5 (IntKind.wrap .i64 ((IntKind.wrap .i64 (((List.length a2 : Nat) : Int) - 1)) * a1)) ((List.length a2 : Nat) : Int) 0 a0 a2))) := by kernel_rfl
theorem s_iuseOf_ok (a0 : (List Int)) (a1 : Int) (a2 : (List Int)) (v : Int) (h : s_iuseOf a0 a1 a2 = some v) : (cond (((List.length a2 : Nat) : Int) == 0) (some [.v (.int .i64 0)]) (f_iuseOf_L (l_iuseOf v) 5 (f_iuseOf_s5 (IntKind.wrap .i64 ((IntKind.wrap .i64 (((List.length a2 : Nat) : Int) - 1)) * a1)) ((List.length a2 : Nat) : Int) 0 a0 a2))) = some (l_iuseOf v) := by
  replace h : sem (fun w => l_iuseOf v = l_iuseOf w) (s_iuseOf a0 a1 a2) := ⟨v, h, rfl⟩
  unfold s_iuseOf at h
  exact (sem_cond h (fun h => sem_got h fun q => some_eq q) (fun h => f_iuseOf_go5 (l_iuseOf v) _ h))
noncomputable def c_iuseOf : List A → ACall
  | [.lst (.one (.i .i64)) a0, .v (.int .i64 a1), .lst (.one (.i .i64)) a2] => ⟨Int, s_iuseOf a0 a1 a2, fun r => .one (.v (.int .i64 r))⟩
  | _ => ACall.fail
theorem f_iuseOf_sound : Sound Try.prog 60 c_iuseOf := by
  refine good f_iuseOf_ctx f_iuseOf_LV f_iuseOf_c f_iuseOf_rv 3 Try.func60 fun rs => ?_
  unfold c_iuseOf
  split
  · rename_i a0 a1 a2; intro v h; exact ⟨rfl, l_iuseOf v, rfl, (f_iuseOf_top a0 a1 a2 _).trans (s_iuseOf_ok a0 a1 a2 v h)⟩
  · intro v h; cases h

/-! ### function 54: slices.Clone[[]int64,int64] -/
noncomputable def f_gClone_int64_c := codeC Try.f54
noncomputable def f_gClone_int64_X : Ctx := ⟨TT, phiOf [], noPsi, noXi⟩
def f_gClone_int64_LV : List (Nat × Keep) := []
def f_gClone_int64_rv : List ResultVar := [.tmp 2]
noncomputable def f_gClone_int64_L := Lq f_gClone_int64_X f_gClone_int64_LV f_gClone_int64_c f_gClone_int64_rv
theorem f_gClone_int64_ctx : CtxOK Try.prog f_gClone_int64_X := ctx_of tab mix trivial
noncomputable def s_gClone_int64 (a0 : (List Int)) : Option (List Int) := (cond (Nat.blt 0 (List.length a0)) (cond (fits ((List.length ([] : List Int) + List.length (a0 : List Int)) * 8)) (some ([] ++ a0)) none) none)
theorem f_gClone_int64_top (a0 : (List Int)) (r : List A) : Tq f_gClone_int64_X f_gClone_int64_LV f_gClone_int64_c f_gClone_int64_rv r [.lst (.one (.i .i64)) a0] = (cond (Nat.blt 0 (List.length a0)) (cond (fits ((List.length ([] : List Int) + List.length (a0 : List Int)) * 8)) (some [.lst (.one (.i .i64)) ([] ++ a0)]) none) none) := by kernel_rfl
noncomputable def l_gClone_int64 (r : (List Int)) : List A := [.lst (.one (.i .i64)) r]
theorem s_gClone_int64_ok (a0 : (List Int)) (v : (List Int)) (h : s_gClone_int64 a0 = some v) : (cond (Nat.blt 0 (List.length a0)) (cond (fits ((List.length ([] : List Int) + List.length (a0 : List Int)) * 8)) (some [.lst (.one (.i .i64)) ([] ++ a0)]) none) none) = some (l_gClone_int64 v) := by
  refine Eq.trans (b := Option.map l_gClone_int64 (s_gClone_int64 a0)) ?_ (by rw [h]; rfl)
  unfold s_gClone_int64
  exact (cond_app (Option.map l_gClone_int64) (cond_app (Option.map l_gClone_int64) rfl rfl) rfl)
noncomputable def c_gClone_int64 : List A → ACall
  | [.lst (.one (.i .i64)) a0] => ⟨(List Int), s_gClone_int64 a0, fun r => .one (.lst (.one (.i .i64)) r)⟩
  | _ => ACall.fail
theorem f_gClone_int64_sound : Sound Try.prog 54 c_gClone_int64 := by
  refine good f_gClone_int64_ctx f_gClone_int64_LV f_gClone_int64_c f_gClone_int64_rv 1 Try.func54 fun rs => ?_
  unfold c_gClone_int64
  split
  · rename_i a0; intro v h; exact ⟨rfl, l_gClone_int64 v, rfl, (f_gClone_int64_top a0 _).trans (s_gClone_int64_ok a0 v h)⟩
  · intro v h; cases h

/-! ### function 55: loop.example/g01322/impl.hasRoom -/
noncomputable def f_ihasRoom_c := codeC Try.f55
noncomputable def f_ihasRoom_X : Ctx := ⟨TT, phiOf [(54, c_gClone_int64), (60, c_iuseOf)], noPsi, noXi⟩
def f_ihasRoom_LV : List (Nat × Keep) := []
def f_ihasRoom_rv : List ResultVar := [.tmp 10]
noncomputable def f_ihasRoom_L := Lq f_ihasRoom_X f_ihasRoom_LV f_ihasRoom_c f_ihasRoom_rv
theorem f_ihasRoom_ctx : CtxOK Try.prog f_ihasRoom_X := ctx_of tab mix ⟨⟨Try.call54, f_gClone_int64_sound⟩, ⟨Try.call60, f_iuseOf_sound⟩, trivial⟩
noncomputable def s_ihasRoom (a0 : Int) (a1 : Int) (a2 : (List Int)) (a3 : (List Int)) (a4 : Int) : Option Bool := (Option.bind (s_gClone_int64 a3) fun r1 => (cond (fits ((List.length (r1 : List Int) + List.length ([a4] : List Int)) * 8)) (Option.bind (s_iuseOf a2 a1 (r1 ++ [a4])) fun r2 => (some (decide (r2 ≤ a0)))) none))
theorem f_ihasRoom_top (a0 : Int) (a1 : Int) (a2 : (List Int)) (a3 : (List Int)) (a4 : Int) (r : List A) : Tq f_ihasRoom_X f_ihasRoom_LV f_ihasRoom_c f_ihasRoom_rv r [.v (.int .i64 a0), .v (.int .i64 a1), .lst (.one (.i .i64)) a2, .lst (.one (.i .i64)) a3, .v (.int .i64 a4)] = (Option.bind (s_gClone_int64 a3) fun r1 => (cond (fits ((List.length (r1 : List Int) + List.length ([a4] : List Int)) * 8)) (Option.bind (s_iuseOf a2 a1 (r1 ++ [a4])) fun r2 => (some [.v (.bool (decide (r2 ≤ a0)))])) none)) := by kernel_rfl
noncomputable def l_ihasRoom (r : Bool) : List A := [.v (.bool r)]
theorem s_ihasRoom_ok (a0 : Int) (a1 : Int) (a2 : (List Int)) (a3 : (List Int)) (a4 : Int) (v : Bool) (h : s_ihasRoom a0 a1 a2 a3 a4 = some v) : (Option.bind (s_gClone_int64 a3) fun r1 => (cond (fits ((List.length (r1 : List Int) + List.length ([a4] : List Int)) * 8)) (Option.bind (s_iuseOf a2 a1 (r1 ++ [a4])) fun r2 => (some [.v (.bool (decide (r2 ≤ a0)))])) none)) = some (l_ihasRoom v) := by
  refine Eq.trans (b := Option.map l_ihasRoom (s_ihasRoom a0 a1 a2 a3 a4)) ?_ (by rw [h]; rfl)
  unfold s_ihasRoom
  exact (bind_app fun _ => (cond_app (Option.map l_ihasRoom) (bind_app fun _ => rfl) rfl))
noncomputable def c_ihasRoom : List A → ACall
  | [.v (.int .i64 a0), .v (.int .i64 a1), .lst (.one (.i .i64)) a2, .lst (.one (.i .i64)) a3, .v (.int .i64 a4)] => ⟨Bool, s_ihasRoom a0 a1 a2 a3 a4, fun r => .one (.v (.bool r))⟩
  | _ => ACall.fail
theorem f_ihasRoom_sound : Sound Try.prog 55 c_ihasRoom := by
  refine good f_ihasRoom_ctx f_ihasRoom_LV f_ihasRoom_c f_ihasRoom_rv 5 Try.func55 fun rs => ?_
  unfold c_ihasRoom
  split
  · rename_i a0 a1 a2 a3 a4; intro v h; exact ⟨rfl, l_ihasRoom v, rfl, (f_ihasRoom_top a0 a1 a2 a3 a4 _).trans (s_ihasRoom_ok a0 a1 a2 a3 a4 v h)⟩
  · intro v h; cases h

/-! ### function 50: loop.example/g01322/spec.l04Put -/
noncomputable def f_sl04Put_c := codeC Try.f50
noncomputable def f_sl04Put_X : Ctx := ⟨TT, phiOf [], noPsi, noXi⟩
def f_sl04Put_LV : List (Nat × Keep) := [(3, ([0, 1, 2, 7, 8], [], []))]
def f_sl04Put_rv : List ResultVar := [.tmp 6]
noncomputable def f_sl04Put_L := Lq f_sl04Put_X f_sl04Put_LV f_sl04Put_c f_sl04Put_rv
theorem f_sl04Put_ctx : CtxOK Try.prog f_sl04Put_X := ctx_of tab mix trivial
noncomputable def f_sl04Put_s3 (x0 : Int) (x1 : Int) (x2 : Int) (x3 : (List (List Int))) (x4 : (List (List Int))) : AS := ⟨[(0, .a (.sl 0)), (1, .a (.v (.int .i64 x0))), (2, .a (.v (.int .i64 x1))), (7, .a (.sl 1)), (8, .a (.v (.int .i64 x2)))], [(0, some ⟨false, .arr (.one (.ls .i64)) x3⟩), (1, some ⟨true, .arr (.one (.ls .i64)) x4⟩)], 2⟩
noncomputable def l_sl04Put (r : (List (List Int))) : List A := [.lst (.one (.ls .i64)) r]
theorem f_sl04Put_step3 (x0 : Int) (x1 : Int) (x2 : Int) (x3 : (List (List Int))) (x4 : (List (List Int))) (r : List A) (h : (cond (decide (x2 < ((List.length x3 : Nat) : Int))) (cond (inB x2 (List.length x3)) (cond (fits ((List.length ([] : List Int) + List.length ((List.getD x3 (Int.toNat x2) ([] : List Int)) : List Int)) * 8)) (cond (x2 == x0) (cond (fits ((List.length (([] ++ (List.getD x3 (Int.toNat x2) ([] : List Int))) : List Int) + List.length ([x1] : List Int)) * 8)) (cond (fits ((List.length (x4 : List (List Int)) + List.length ([(([] ++ (List.getD x3 (Int.toNat x2) ([] : List Int))) ++ [x1])] : List (List Int))) * 24)) (f_sl04Put_L r 3 (f_sl04Put_s3 x0 x1 (IntKind.wrap .i64 (x2 + 1)) x3 (x4 ++ [(([] ++ (List.getD x3 (Int.toNat x2) ([] : List Int))) ++ [x1])]))) none) none) (cond (fits ((List.length (x4 : List (List Int)) + List.length ([([] ++ (List.getD x3 (Int.toNat x2) ([] : List Int)))] : List (List Int))) * 24)) (f_sl04Put_L r 3 (f_sl04Put_s3 x0 x1 (IntKind.wrap .i64 (x2 + 1)) x3 (x4 ++ [([] ++ (List.getD x3 (Int.toNat x2) ([] : List Int)))]))) none)) none) none) (cond (x0 == ((List.length x3 : Nat) : Int)) (cond (fits ((List.length (x4 : List (List Int)) + List.length ([[x1]] : List (List Int))) * 24)) (some [.lst (.one (.ls .i64)) (x4 ++ [[x1]])]) none) (some [.lst (.one (.ls .i64)) x4]))) = some r) : f_sl04Put_L r 3 (f_sl04Put_s3 x0 x1 x2 x3 x4) = some r :=
  step_of' h (by kernel_rfl)
noncomputable def f_sl04Put_n3 (x0 : Int) (x1 : Int) (x2 : Int) (x3 : (List (List Int))) (x4 : (List (List Int))) : Option ((Int × Int × Int × (List (List Int)) × (List (List Int))) ⊕ (List (List Int))) := (cond (decide (x2 < ((List.length x3 : Nat) : Int))) (cond (inB x2 (List.length x3)) (cond (fits ((List.length ([] : List Int) + List.length ((List.getD x3 (Int.toNat x2) ([] : List Int)) : List Int)) * 8)) (cond (x2 == x0) (cond (fits ((List.length (([] ++ (List.getD x3 (Int.toNat x2) ([] : List Int))) : List Int) + List.length ([x1] : List Int)) * 8)) (cond (fits ((List.length (x4 : List (List Int)) + List.length ([(([] ++ (List.getD x3 (Int.toNat x2) ([] : List Int))) ++ [x1])] : List (List Int))) * 24)) (some (Sum.inl (x0, x1, (IntKind.wrap .i64 (x2 + 1)), x3, (x4 ++ [(([] ++ (List.getD x3 (Int.toNat x2) ([] : List Int))) ++ [x1])])))) none) none) (cond (fits ((List.length (x4 : List (List Int)) + List.length ([([] ++ (List.getD x3 (Int.toNat x2) ([] : List Int)))] : List (List Int))) * 24)) (some (Sum.inl (x0, x1, (IntKind.wrap .i64 (x2 + 1)), x3, (x4 ++ [([] ++ (List.getD x3 (Int.toNat x2) ([] : List Int)))])))) none)) none) none) (cond (x0 == ((List.length x3 : Nat) : Int)) (cond (fits ((List.length (x4 : List (List Int)) + List.length ([[x1]] : List (List Int))) * 24)) (some (Sum.inr (x4 ++ [[x1]]))) none) (some (Sum.inr x4))))
noncomputable def f_sl04Put_run3 (x : (Int × Int × Int × (List (List Int)) × (List (List Int)))) : Option (List (List Int)) := iter (fun x => f_sl04Put_n3 x.1 x.2.1 x.2.2.1 x.2.2.2.1 x.2.2.2.2) FU x
noncomputable def f_sl04Put_G3 (r : List A) (x : (Int × Int × Int × (List (List Int)) × (List (List Int)))) : Prop := f_sl04Put_L r 3 (f_sl04Put_s3 x.1 x.2.1 x.2.2.1 x.2.2.2.1 x.2.2.2.2) = some r
noncomputable def f_sl04Put_S3 (r : List A) : (List (List Int)) → Prop := fun v => r = l_sl04Put v
theorem f_sl04Put_go3 (r : List A) : ∀ x, sem (f_sl04Put_S3 r) (f_sl04Put_run3 x) → f_sl04Put_G3 r x :=
  fun x => iter_sound (step := fun x => f_sl04Put_n3 x.1 x.2.1 x.2.2.1 x.2.2.2.1 x.2.2.2.2) (fun x h => by
    unfold f_sl04Put_n3 at h
    exact f_sl04Put_step3 x.1 x.2.1 x.2.2.1 x.2.2.2.1 x.2.2.2.2 r ((sem_cond h (fun h => (sem_cond h (fun h => (sem_cond h (fun h => (sem_cond h (fun h => (sem_cond h (fun h => (sem_cond h (fun h => sem_got h fun q => q) (fun h => sem_none h))) (fun h => sem_none h))) (fun h => (sem_cond h (fun h => sem_got h fun q => q) (fun h => sem_none h))))) (fun h => sem_none h))) (fun h => sem_none h))) (fun h => (sem_cond h (fun h => (sem_cond h (fun h => sem_got h fun q => some_eq q) (fun h => sem_none h))) (fun h => sem_got h fun q => some_eq q)))))) FU x
noncomputable def s_sl04Put (a0 : (List (List Int))) (a1 : Int) (a2 : Int) : Option (List (List Int)) := (f_sl04Put_run3 (a1, a2, 0, a0, []))
theorem f_sl04Put_top (a0 : (List (List Int))) (a1 : Int) (a2 : Int) (r : List A) : Tq f_sl04Put_X f_sl04Put_LV f_sl04Put_c f_sl04Put_rv r [.lst (.one (.ls .i64)) a0, .v (.int .i64 a1), .v (.int .i64 a2)] = (f_sl04Put_L r 3 (f_sl04Put_s3 a1 a2 0 a0 [])) := by kernel_rfl
theorem s_sl04Put_ok (a0 : (List (List Int))) (a1 : Int) (a2 : Int) (v : (List (List Int))) (h : s_sl04Put a0 a1 a2 = some v) : (f_sl04Put_L (l_sl04Put v) 3 (f_sl04Put_s3 a1 a2 0 a0 [])) = some (l_sl04Put v) := by
  replace h : sem (fun w => l_sl04Put v = l_sl04Put w) (s_sl04Put a0 a1 a2) := ⟨v, h, rfl⟩
  unfold s_sl04Put at h
  exact f_sl04Put_go3 (l_sl04Put v) _ h
noncomputable def c_sl04Put : List A → ACall
  | [.lst (.one (.ls .i64)) a0, .v (.int .i64 a1), .v (.int .i64 a2)] => ⟨(List (List Int)), s_sl04Put a0 a1 a2, fun r => .one (.lst (.one (.ls .i64)) r)⟩
  | _ => ACall.fail
theorem f_sl04Put_sound : Sound Try.prog 50 c_sl04Put := by
  refine good f_sl04Put_ctx f_sl04Put_LV f_sl04Put_c f_sl04Put_rv 3 Try.func50 fun rs => ?_
  unfold c_sl04Put
  split
  · rename_i a0 a1 a2; intro v h; exact ⟨rfl, l_sl04Put v, rfl, (f_sl04Put_top a0 a1 a2 _).trans (s_sl04Put_ok a0 a1 a2 v h)⟩
  · intro v h; cases h
end Go.RR
