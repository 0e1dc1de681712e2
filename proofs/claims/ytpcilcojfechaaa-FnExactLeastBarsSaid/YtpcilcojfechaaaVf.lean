/- Lists that are compared and marked. -/
import Derived.Test.YtpcilcojfechaaaVe
import Derived.Test.YtpcilcojfechaaaRz
set_option linter.unusedVariables false
set_option linter.unusedSimpArgs false
set_option linter.unusedSectionVars false
set_option maxRecDepth 100000
namespace Go.RR
open Go Go.Proofs

/-! ### function 15: loop.example/g01322/laws.markInt64S -/
noncomputable def f_wmarkInt64S_c := codeC Try.f15
noncomputable def f_wmarkInt64S_X : Ctx := ⟨TT, phiOf [], noPsi, noXi⟩
def f_wmarkInt64S_LV : List (Nat × Keep) := [(2, ([0, 1, 5], [], []))]
def f_wmarkInt64S_rv : List ResultVar := [.tmp 4]
noncomputable def f_wmarkInt64S_L := LqU f_wmarkInt64S_X f_wmarkInt64S_LV f_wmarkInt64S_c f_wmarkInt64S_rv
theorem f_wmarkInt64S_ctx : CtxOK Try.prog f_wmarkInt64S_X := ctx_of tab mix trivial
noncomputable def f_wmarkInt64S_s2 (x0 : Int) (x1 : Int) (x2 : (List Int)) : AS := ⟨[(0, .a (.sl 0)), (1, .a (.v (.int .i64 x0))), (5, .a (.v (.int .i64 x1)))], [(0, some ⟨true, .arr (.one (.i .i64)) x2⟩)], 1⟩
noncomputable def l_wmarkInt64S (r : (Int × (List Int))) : List A := [.v (.int .i64 r.1), .lst (.one (.i .i64)) r.2]
theorem f_wmarkInt64S_step2 (x0 : Int) (x1 : Int) (x2 : (List Int)) (r : List A) (h : (cond (decide (x1 < ((List.length x2 : Nat) : Int))) (cond (inB x1 (List.length x2)) (f_wmarkInt64S_L r 2 (f_wmarkInt64S_s2 (IntKind.wrap .i64 (x0 + 1)) (IntKind.wrap .i64 (x1 + 1)) (List.set x2 (Int.toNat x1) x0))) none) (some [.v (.int .i64 x0), .lst (.one (.i .i64)) x2])) = some r) : f_wmarkInt64S_L r 2 (f_wmarkInt64S_s2 x0 x1 x2) = some r :=
  step_of' h (by kernel_rfl)
noncomputable def f_wmarkInt64S_n2 (x0 : Int) (x1 : Int) (x2 : (List Int)) : Option ((Int × Int × (List Int)) ⊕ (Int × (List Int))) := (cond (decide (x1 < ((List.length x2 : Nat) : Int))) (cond (inB x1 (List.length x2)) (some (Sum.inl ((IntKind.wrap .i64 (x0 + 1)), (IntKind.wrap .i64 (x1 + 1)), (List.set x2 (Int.toNat x1) x0)))) none) (some (Sum.inr (x0, x2))))
noncomputable def f_wmarkInt64S_run2 (x : (Int × Int × (List Int))) : Option (Int × (List Int)) := iter (fun x => f_wmarkInt64S_n2 x.1 x.2.1 x.2.2) FU x
noncomputable def f_wmarkInt64S_G2 (r : List A) (x : (Int × Int × (List Int))) : Prop := f_wmarkInt64S_L r 2 (f_wmarkInt64S_s2 x.1 x.2.1 x.2.2) = some r
noncomputable def f_wmarkInt64S_S2 (r : List A) : (Int × (List Int)) → Prop := fun v => r = l_wmarkInt64S v
theorem f_wmarkInt64S_go2 (r : List A) : ∀ x, sem (f_wmarkInt64S_S2 r) (f_wmarkInt64S_run2 x) → f_wmarkInt64S_G2 r x :=
  fun x => iter_sound (step := fun x => f_wmarkInt64S_n2 x.1 x.2.1 x.2.2) (fun x h => by
    unfold f_wmarkInt64S_n2 at h
    exact f_wmarkInt64S_step2 x.1 x.2.1 x.2.2 r ((sem_cond h (fun h => (sem_cond h (fun h => sem_got h fun q => q) (fun h => sem_none h))) (fun h => sem_got h fun q => some_eq q)))) FU x
noncomputable def s_wmarkInt64S (a0 : (List Int)) (a1 : Int) : Option (Int × (List Int)) := (f_wmarkInt64S_run2 (a1, 0, a0))
theorem f_wmarkInt64S_top (a0 : (List Int)) (a1 : Int) (r : List A) : TqU f_wmarkInt64S_X f_wmarkInt64S_LV f_wmarkInt64S_c f_wmarkInt64S_rv r (.one (.i .i64)) a0 [.v (.int .i64 a1)] = (f_wmarkInt64S_L r 2 (f_wmarkInt64S_s2 a1 0 a0)) := by kernel_rfl
theorem s_wmarkInt64S_ok (a0 : (List Int)) (a1 : Int) (v : (Int × (List Int))) (h : s_wmarkInt64S a0 a1 = some v) : (f_wmarkInt64S_L (l_wmarkInt64S v) 2 (f_wmarkInt64S_s2 a1 0 a0)) = some (l_wmarkInt64S v) := by
  replace h : sem (fun w => l_wmarkInt64S v = l_wmarkInt64S w) (s_wmarkInt64S a0 a1) := ⟨v, h, rfl⟩
  unfold s_wmarkInt64S at h
  exact f_wmarkInt64S_go2 (l_wmarkInt64S v) _ h
noncomputable def u_wmarkInt64S : UCon := fun e l rest => match e, l, rest with
  | (.one (.i .i64)), a0, [.v (.int .i64 a1)] => ⟨(Int × (List Int)), s_wmarkInt64S a0 a1, fun r => some (.v (.int .i64 r.1)), fun r => r.2⟩
  | _, _, _ => UCall.fail
theorem f_wmarkInt64S_sound : USound Try.prog 15 u_wmarkInt64S := by
  refine goodU f_wmarkInt64S_ctx f_wmarkInt64S_LV f_wmarkInt64S_c f_wmarkInt64S_rv 2 Try.func15 fun e l rest => ?_
  unfold u_wmarkInt64S
  split
  · rename_i a0 a1; intro v h; exact ⟨rfl, (f_wmarkInt64S_top a0 a1 _).trans (s_wmarkInt64S_ok a0 a1 v h)⟩
  · intro v h; cases h

/-! ### function 11: loop.example/g01322/laws.toInt64S -/
noncomputable def f_wtoInt64S_c := codeC Try.f11
noncomputable def f_wtoInt64S_X : Ctx := ⟨TT, phiOf [], noPsi, noXi⟩
def f_wtoInt64S_LV : List (Nat × Keep) := [(3, ([0, 3, 4], [], []))]
def f_wtoInt64S_rv : List ResultVar := [.tmp 2]
noncomputable def f_wtoInt64S_L := Lq f_wtoInt64S_X f_wtoInt64S_LV f_wtoInt64S_c f_wtoInt64S_rv
theorem f_wtoInt64S_ctx : CtxOK Try.prog f_wtoInt64S_X := ctx_of tab mix trivial
noncomputable def f_wtoInt64S_s3 (x0 : Int) (x1 : (List Int)) (x2 : (List Int)) : AS := ⟨[(0, .a (.sl 0)), (3, .a (.sl 1)), (4, .a (.v (.int .i64 x0)))], [(0, some ⟨false, .arr (.one (.i .i64)) x1⟩), (1, some ⟨true, .arr (.one (.i .i64)) x2⟩)], 2⟩
noncomputable def l_wtoInt64S (r : (List Int)) : List A := [.lst (.one (.i .i64)) r]
theorem f_wtoInt64S_step3 (x0 : Int) (x1 : (List Int)) (x2 : (List Int)) (r : List A) (h : (cond (decide (x0 < ((List.length x1 : Nat) : Int))) (cond (inB x0 (List.length x1)) (cond (inB x0 (List.length x2)) (f_wtoInt64S_L r 3 (f_wtoInt64S_s3 (IntKind.wrap .i64 (x0 + 1)) x1 (List.set x2 (Int.toNat x0) (List.getD x1 (Int.toNat x0) 0)))) none) none) (some [.lst (.one (.i .i64)) x2])) = some r) : f_wtoInt64S_L r 3 (f_wtoInt64S_s3 x0 x1 x2) = some r :=
  step_of' h (by kernel_rfl)
noncomputable def f_wtoInt64S_n3 (x0 : Int) (x1 : (List Int)) (x2 : (List Int)) : Option ((Int × (List Int) × (List Int)) ⊕ (List Int)) := (cond (decide (x0 < ((List.length x1 : Nat) : Int))) (cond (inB x0 (List.length x1)) (cond (inB x0 (List.length x2)) (some (Sum.inl ((IntKind.wrap .i64 (x0 + 1)), x1, (List.set x2 (Int.toNat x0) (List.getD x1 (Int.toNat x0) 0))))) none) none) (some (Sum.inr x2)))
noncomputable def f_wtoInt64S_run3 (x : (Int × (List Int) × (List Int))) : Option (List Int) := iter (fun x => f_wtoInt64S_n3 x.1 x.2.1 x.2.2) FU x
noncomputable def f_wtoInt64S_G3 (r : List A) (x : (Int × (List Int) × (List Int))) : Prop := f_wtoInt64S_L r 3 (f_wtoInt64S_s3 x.1 x.2.1 x.2.2) = some r
noncomputable def f_wtoInt64S_S3 (r : List A) : (List Int) → Prop := fun v => r = l_wtoInt64S v
theorem f_wtoInt64S_go3 (r : List A) : ∀ x, sem (f_wtoInt64S_S3 r) (f_wtoInt64S_run3 x) → f_wtoInt64S_G3 r x :=
  fun x => iter_sound (step := fun x => f_wtoInt64S_n3 x.1 x.2.1 x.2.2) (fun x h => by
    unfold f_wtoInt64S_n3 at h
    exact f_wtoInt64S_step3 x.1 x.2.1 x.2.2 r ((sem_cond h (fun h => (sem_cond h (fun h => (sem_cond h (fun h => sem_got h fun q => q) (fun h => sem_none h))) (fun h => sem_none h))) (fun h => sem_got h fun q => some_eq q)))) FU x
noncomputable def s_wtoInt64S (a0 : (List Int)) : Option (List Int) := (cond (decide (0 ≤ ((List.length a0 : Nat) : Int)) && decide (((List.length a0 : Nat) : Int) = ((List.length a0 : Nat) : Int)) && fits ((Int.toNat ((List.length a0 : Nat) : Int)) * 8)) (f_wtoInt64S_run3 (0, a0, (List.replicate (Int.toNat ((List.length a0 : Nat) : Int)) (0 : Int)))) none)
theorem f_wtoInt64S_top (a0 : (List Int)) (r : List A) : Tq f_wtoInt64S_X f_wtoInt64S_LV f_wtoInt64S_c f_wtoInt64S_rv r [.lst (.one (.i .i64)) a0] = (cond (decide (0 ≤ ((List.length a0 : Nat) : Int)) && decide (((List.length a0 : Nat) : Int) = ((List.length a0 : Nat) : Int)) && fits ((Int.toNat ((List.length a0 : Nat) : Int)) * 8)) (f_wtoInt64S_L r 3 (f_wtoInt64S_s3 0 a0 (List.replicate (Int.toNat ((List.length a0 : Nat) : Int)) (0 : Int)))) none) := by kernel_rfl
theorem s_wtoInt64S_ok (a0 : (List Int)) (v : (List Int)) (h : s_wtoInt64S a0 = some v) : (cond (decide (0 ≤ ((List.length a0 : Nat) : Int)) && decide (((List.length a0 : Nat) : Int) = ((List.length a0 : Nat) : Int)) && fits ((Int.toNat ((List.length a0 : Nat) : Int)) * 8)) (f_wtoInt64S_L (l_wtoInt64S v) 3 (f_wtoInt64S_s3 0 a0 (List.replicate (Int.toNat ((List.length a0 : Nat) : Int)) (0 : Int)))) none) = some (l_wtoInt64S v) := by
  replace h : sem (fun w => l_wtoInt64S v = l_wtoInt64S w) (s_wtoInt64S a0) := ⟨v, h, rfl⟩
  unfold s_wtoInt64S at h
  exact (sem_cond h (fun h => f_wtoInt64S_go3 (l_wtoInt64S v) _ h) (fun h => sem_none h))
noncomputable def c_wtoInt64S : List A → ACall
  | [.lst (.one (.i .i64)) a0] => ⟨(List Int), s_wtoInt64S a0, fun r => .one (.lst (.one (.i .i64)) r)⟩
  | _ => ACall.fail
theorem f_wtoInt64S_sound : Sound Try.prog 11 c_wtoInt64S := by
  refine good f_wtoInt64S_ctx f_wtoInt64S_LV f_wtoInt64S_c f_wtoInt64S_rv 1 Try.func11 fun rs => ?_
  unfold c_wtoInt64S
  split
  · rename_i a0; intro v h; exact ⟨rfl, l_wtoInt64S v, rfl, (f_wtoInt64S_top a0 _).trans (s_wtoInt64S_ok a0 v h)⟩
  · intro v h; cases h

/-! ### function 14: loop.example/g01322/laws.eqInt64S -/
noncomputable def f_weqInt64S_c := codeC Try.f14
noncomputable def f_weqInt64S_X : Ctx := ⟨TT, phiOf [], noPsi, noXi⟩
def f_weqInt64S_LV : List (Nat × Keep) := [(4, ([0, 1, 5], [], []))]
def f_weqInt64S_rv : List ResultVar := [.tmp 4]
noncomputable def f_weqInt64S_L := Lq f_weqInt64S_X f_weqInt64S_LV f_weqInt64S_c f_weqInt64S_rv
theorem f_weqInt64S_ctx : CtxOK Try.prog f_weqInt64S_X := ctx_of tab mix trivial
noncomputable def f_weqInt64S_s4 (x0 : Int) (x1 : (List Int)) (x2 : (List Int)) : AS := ⟨[(0, .a (.sl 0)), (1, .a (.sl 1)), (5, .a (.v (.int .i64 x0)))], [(0, some ⟨false, .arr (.one (.i .i64)) x1⟩), (1, some ⟨false, .arr (.one (.i .i64)) x2⟩)], 2⟩
noncomputable def l_weqInt64S (r : Bool) : List A := [.v (.bool r)]
theorem f_weqInt64S_step4 (x0 : Int) (x1 : (List Int)) (x2 : (List Int)) (r : List A) (h : (cond (decide (x0 < ((List.length x1 : Nat) : Int))) (cond (inB x0 (List.length x1)) (cond (inB x0 (List.length x2)) (cond ((List.getD x1 (Int.toNat x0) 0) != (List.getD x2 (Int.toNat x0) 0)) (some [.v (.bool false)]) (f_weqInt64S_L r 4 (f_weqInt64S_s4 (IntKind.wrap .i64 (x0 + 1)) x1 x2))) none) none) (some [.v (.bool true)])) = some r) : f_weqInt64S_L r 4 (f_weqInt64S_s4 x0 x1 x2) = some r :=
  step_of' h (by kernel_rfl)
noncomputable def f_weqInt64S_n4 (x0 : Int) (x1 : (List Int)) (x2 : (List Int)) : Option ((Int × (List Int) × (List Int)) ⊕ Bool) := (cond (decide (x0 < ((List.length x1 : Nat) : Int))) (cond (inB x0 (List.length x1)) (cond (inB x0 (List.length x2)) (cond ((List.getD x1 (Int.toNat x0) 0) != (List.getD x2 (Int.toNat x0) 0)) (some (Sum.inr false)) (some (Sum.inl ((IntKind.wrap .i64 (x0 + 1)), x1, x2)))) none) none) (some (Sum.inr true)))
noncomputable def f_weqInt64S_run4 (x : (Int × (List Int) × (List Int))) : Option Bool := iter (fun x => f_weqInt64S_n4 x.1 x.2.1 x.2.2) FU x
noncomputable def f_weqInt64S_G4 (r : List A) (x : (Int × (List Int) × (List Int))) : Prop := f_weqInt64S_L r 4 (f_weqInt64S_s4 x.1 x.2.1 x.2.2) = some r
noncomputable def f_weqInt64S_S4 (r : List A) : Bool → Prop := fun v => r = l_weqInt64S v
theorem f_weqInt64S_go4 (r : List A) : ∀ x, sem (f_weqInt64S_S4 r) (f_weqInt64S_run4 x) → f_weqInt64S_G4 r x :=
  fun x => iter_sound (step := fun x => f_weqInt64S_n4 x.1 x.2.1 x.2.2) (fun x h => by
    unfold f_weqInt64S_n4 at h
    exact f_weqInt64S_step4 x.1 x.2.1 x.2.2 r ((sem_cond h (fun h => (sem_cond h (fun h => (sem_cond h (fun h => (sem_cond h (fun h => sem_got h fun q => some_eq q) (fun h => sem_got h fun q => q))) (fun h => sem_none h))) (fun h => sem_none h))) (fun h => sem_got h fun q => some_eq q)))) FU x
noncomputable def s_weqInt64S (a0 : (List Int)) (a1 : (List Int)) : Option Bool := (cond (((List.length a0 : Nat) : Int) != ((List.length a1 : Nat) : Int)) (some false) (f_weqInt64S_run4 (0, a0, a1)))
theorem f_weqInt64S_top (a0 : (List Int)) (a1 : (List Int)) (r : List A) : Tq f_weqInt64S_X f_weqInt64S_LV f_weqInt64S_c f_weqInt64S_rv r [.lst (.one (.i .i64)) a0, .lst (.one (.i .i64)) a1] = (cond (((List.length a0 : Nat) : Int) != ((List.length a1 : Nat) : Int)) (some [.v (.bool false)]) (f_weqInt64S_L r 4 (f_weqInt64S_s4 0 a0 a1))) := by kernel_rfl
theorem s_weqInt64S_ok (a0 : (List Int)) (a1 : (List Int)) (v : Bool) (h : s_weqInt64S a0 a1 = some v) : (cond (((List.length a0 : Nat) : Int) != ((List.length a1 : Nat) : Int)) (some [.v (.bool false)]) (f_weqInt64S_L (l_weqInt64S v) 4 (f_weqInt64S_s4 0 a0 a1))) = some (l_weqInt64S v) := by
  replace h : sem (fun w => l_weqInt64S v = l_weqInt64S w) (s_weqInt64S a0 a1) := ⟨v, h, rfl⟩
  unfold s_weqInt64S at h
  exact (sem_cond h (fun h => sem_got h fun q => some_eq q) (fun h => f_weqInt64S_go4 (l_weqInt64S v) _ h))
noncomputable def c_weqInt64S : List A → ACall
  | [.lst (.one (.i .i64)) a0, .lst (.one (.i .i64)) a1] => ⟨Bool, s_weqInt64S a0 a1, fun r => .one (.v (.bool r))⟩
  | _ => ACall.fail
theorem f_weqInt64S_sound : Sound Try.prog 14 c_weqInt64S := by
  refine good f_weqInt64S_ctx f_weqInt64S_LV f_weqInt64S_c f_weqInt64S_rv 2 Try.func14 fun rs => ?_
  unfold c_weqInt64S
  split
  · rename_i a0 a1; intro v h; exact ⟨rfl, l_weqInt64S v, rfl, (f_weqInt64S_top a0 a1 _).trans (s_weqInt64S_ok a0 a1 v h)⟩
  · intro v h; cases h

/-! ### function 13: loop.example/g01322/laws.eqInt64SS -/
noncomputable def f_weqInt64SS_c := codeC Try.f13
noncomputable def f_weqInt64SS_X : Ctx := ⟨TT, phiOf [(14, c_weqInt64S)], noPsi, noXi⟩
def f_weqInt64SS_LV : List (Nat × Keep) := [(4, ([0, 1, 5], [], []))]
def f_weqInt64SS_rv : List ResultVar := [.tmp 4]
noncomputable def f_weqInt64SS_L := Lq f_weqInt64SS_X f_weqInt64SS_LV f_weqInt64SS_c f_weqInt64SS_rv
theorem f_weqInt64SS_ctx : CtxOK Try.prog f_weqInt64SS_X := ctx_of tab mix ⟨⟨Try.call14, f_weqInt64S_sound⟩, trivial⟩
noncomputable def f_weqInt64SS_s4 (x0 : Int) (x1 : (List (List Int))) (x2 : (List (List Int))) : AS := ⟨[(0, .a (.sl 0)), (1, .a (.sl 1)), (5, .a (.v (.int .i64 x0)))], [(0, some ⟨false, .arr (.one (.ls .i64)) x1⟩), (1, some ⟨false, .arr (.one (.ls .i64)) x2⟩)], 2⟩
noncomputable def l_weqInt64SS (r : Bool) : List A := [.v (.bool r)]
theorem f_weqInt64SS_step4 (x0 : Int) (x1 : (List (List Int))) (x2 : (List (List Int))) (r : List A) (h : (cond (decide (x0 < ((List.length x1 : Nat) : Int))) (cond (inB x0 (List.length x1)) (cond (inB x0 (List.length x2)) (Option.bind (s_weqInt64S (List.getD x1 (Int.toNat x0) ([] : List Int)) (List.getD x2 (Int.toNat x0) ([] : List Int))) fun r1 => (cond (!r1) (some [.v (.bool false)]) (f_weqInt64SS_L r 4 (f_weqInt64SS_s4 (IntKind.wrap .i64 (x0 + 1)) x1 x2)))) none) none) (some [.v (.bool true)])) = some r) : f_weqInt64SS_L r 4 (f_weqInt64SS_s4 x0 x1 x2) = some r :=
  step_of' h (by kernel_rfl)
noncomputable def f_weqInt64SS_n4 (x0 : Int) (x1 : (List (List Int))) (x2 : (List (List Int))) : Option ((Int × (List (List Int)) × (List (List Int))) ⊕ Bool) := (cond (decide (x0 < ((List.length x1 : Nat) : Int))) (cond (inB x0 (List.length x1)) (cond (inB x0 (List.length x2)) (Option.bind (s_weqInt64S (List.getD x1 (Int.toNat x0) ([] : List Int)) (List.getD x2 (Int.toNat x0) ([] : List Int))) fun r1 => (cond (!r1) (some (Sum.inr false)) (some (Sum.inl ((IntKind.wrap .i64 (x0 + 1)), x1, x2))))) none) none) (some (Sum.inr true)))
noncomputable def f_weqInt64SS_run4 (x : (Int × (List (List Int)) × (List (List Int)))) : Option Bool := iter (fun x => f_weqInt64SS_n4 x.1 x.2.1 x.2.2) FU x
noncomputable def f_weqInt64SS_G4 (r : List A) (x : (Int × (List (List Int)) × (List (List Int)))) : Prop := f_weqInt64SS_L r 4 (f_weqInt64SS_s4 x.1 x.2.1 x.2.2) = some r
noncomputable def f_weqInt64SS_S4 (r : List A) : Bool → Prop := fun v => r = l_weqInt64SS v
theorem f_weqInt64SS_go4 (r : List A) : ∀ x, sem (f_weqInt64SS_S4 r) (f_weqInt64SS_run4 x) → f_weqInt64SS_G4 r x :=
  fun x => iter_sound (step := fun x => f_weqInt64SS_n4 x.1 x.2.1 x.2.2) (fun x h => by
    unfold f_weqInt64SS_n4 at h
    exact f_weqInt64SS_step4 x.1 x.2.1 x.2.2 r ((sem_cond h (fun h => (sem_cond h (fun h => (sem_cond h (fun h => (sem_bind h fun r1 h => (sem_cond h (fun h => sem_got h fun q => some_eq q) (fun h => sem_got h fun q => q)))) (fun h => sem_none h))) (fun h => sem_none h))) (fun h => sem_got h fun q => some_eq q)))) FU x
noncomputable def s_weqInt64SS (a0 : (List (List Int))) (a1 : (List (List Int))) : Option Bool := (cond (((List.length a0 : Nat) : Int) != ((List.length a1 : Nat) : Int)) (some false) (f_weqInt64SS_run4 (0, a0, a1)))
theorem f_weqInt64SS_top (a0 : (List (List Int))) (a1 : (List (List Int))) (r : List A) : Tq f_weqInt64SS_X f_weqInt64SS_LV f_weqInt64SS_c f_weqInt64SS_rv r [.lst (.one (.ls .i64)) a0, .lst (.one (.ls .i64)) a1] = (cond (((List.length a0 : Nat) : Int) != ((List.length a1 : Nat) : Int)) (some [.v (.bool false)]) (f_weqInt64SS_L r 4 (f_weqInt64SS_s4 0 a0 a1))) := by kernel_rfl
theorem s_weqInt64SS_ok (a0 : (List (List Int))) (a1 : (List (List Int))) (v : Bool) (h : s_weqInt64SS a0 a1 = some v) : (cond (((List.length a0 : Nat) : Int) != ((List.length a1 : Nat) : Int)) (some [.v (.bool false)]) (f_weqInt64SS_L (l_weqInt64SS v) 4 (f_weqInt64SS_s4 0 a0 a1))) = some (l_weqInt64SS v) := by
  replace h : sem (fun w => l_weqInt64SS v = l_weqInt64SS w) (s_weqInt64SS a0 a1) := ⟨v, h, rfl⟩
  unfold s_weqInt64SS at h
  exact (sem_cond h (fun h => sem_got h fun q => some_eq q) (fun h => f_weqInt64SS_go4 (l_weqInt64SS v) _ h))
noncomputable def c_weqInt64SS : List A → ACall
  | [.lst (.one (.ls .i64)) a0, .lst (.one (.ls .i64)) a1] => ⟨Bool, s_weqInt64SS a0 a1, fun r => .one (.v (.bool r))⟩
  | _ => ACall.fail
theorem f_weqInt64SS_sound : Sound Try.prog 13 c_weqInt64SS := by
  refine good f_weqInt64SS_ctx f_weqInt64SS_LV f_weqInt64SS_c f_weqInt64SS_rv 2 Try.func13 fun rs => ?_
  unfold c_weqInt64SS
  split
  · rename_i a0 a1; intro v h; exact ⟨rfl, l_weqInt64SS v, rfl, (f_weqInt64SS_top a0 a1 _).trans (s_weqInt64SS_ok a0 a1 v h)⟩
  · intro v h; cases h

/-! ### function 39: loop.example/g01322/laws.heldInt64S -/
noncomputable def f_wheldInt64S_c := codeC Try.f39
noncomputable def f_wheldInt64S_X : Ctx := ⟨TT, phiOf [], noPsi, noXi⟩
def f_wheldInt64S_LV : List (Nat × Keep) := [(2, ([0, 1, 5], [], []))]
def f_wheldInt64S_rv : List ResultVar := [.tmp 4]
noncomputable def f_wheldInt64S_L := Lq f_wheldInt64S_X f_wheldInt64S_LV f_wheldInt64S_c f_wheldInt64S_rv
theorem f_wheldInt64S_ctx : CtxOK Try.prog f_wheldInt64S_X := ctx_of tab mix trivial
noncomputable def f_wheldInt64S_s2 (x0 : Int) (x1 : Int) (x2 : (List Int)) : AS := ⟨[(0, .a (.sl 0)), (1, .a (.v (.int .i64 x0))), (5, .a (.v (.int .i64 x1)))], [(0, some ⟨false, .arr (.one (.i .i64)) x2⟩)], 1⟩
noncomputable def l_wheldInt64S (r : Int) : List A := [.v (.int .i64 r)]
theorem f_wheldInt64S_step2 (x0 : Int) (x1 : Int) (x2 : (List Int)) (r : List A) (h : (cond (decide (x1 < ((List.length x2 : Nat) : Int))) (cond (inB x1 (List.length x2)) (cond ((List.getD x2 (Int.toNat x1) 0) != x0) (some [.v (.int .i64 (-1))]) (f_wheldInt64S_L r 2 (f_wheldInt64S_s2 (IntKind.wrap .i64 (x0 + 1)) (IntKind.wrap .i64 (x1 + 1)) x2))) none) (some [.v (.int .i64 x0)])) = some r) : f_wheldInt64S_L r 2 (f_wheldInt64S_s2 x0 x1 x2) = some r :=
  step_of' h (by kernel_rfl)
noncomputable def f_wheldInt64S_n2 (x0 : Int) (x1 : Int) (x2 : (List Int)) : Option ((Int × Int × (List Int)) ⊕ Int) := (cond (decide (x1 < ((List.length x2 : Nat) : Int))) (cond (inB x1 (List.length x2)) (cond ((List.getD x2 (Int.toNat x1) 0) != x0) (some (Sum.inr (-1))) (some (Sum.inl ((IntKind.wrap .i64 (x0 + 1)), (IntKind.wrap .i64 (x1 + 1)), x2)))) none) (some (Sum.inr x0)))
noncomputable def f_wheldInt64S_run2 (x : (Int × Int × (List Int))) : Option Int := iter (fun x => f_wheldInt64S_n2 x.1 x.2.1 x.2.2) FU x
noncomputable def f_wheldInt64S_G2 (r : List A) (x : (Int × Int × (List Int))) : Prop := f_wheldInt64S_L r 2 (f_wheldInt64S_s2 x.1 x.2.1 x.2.2) = some r
noncomputable def f_wheldInt64S_S2 (r : List A) : Int → Prop := fun v => r = l_wheldInt64S v
theorem f_wheldInt64S_go2 (r : List A) : ∀ x, sem (f_wheldInt64S_S2 r) (f_wheldInt64S_run2 x) → f_wheldInt64S_G2 r x :=
  fun x => iter_sound (step := fun x => f_wheldInt64S_n2 x.1 x.2.1 x.2.2) (fun x h => by
    unfold f_wheldInt64S_n2 at h
    exact f_wheldInt64S_step2 x.1 x.2.1 x.2.2 r ((sem_cond h (fun h => (sem_cond h (fun h => (sem_cond h (fun h => sem_got h fun q => some_eq q) (fun h => sem_got h fun q => q))) (fun h => sem_none h))) (fun h => sem_got h fun q => some_eq q)))) FU x
noncomputable def s_wheldInt64S (a0 : (List Int)) (a1 : Int) : Option Int := (f_wheldInt64S_run2 (a1, 0, a0))
theorem f_wheldInt64S_top (a0 : (List Int)) (a1 : Int) (r : List A) : Tq f_wheldInt64S_X f_wheldInt64S_LV f_wheldInt64S_c f_wheldInt64S_rv r [.lst (.one (.i .i64)) a0, .v (.int .i64 a1)] = (f_wheldInt64S_L r 2 (f_wheldInt64S_s2 a1 0 a0)) := by kernel_rfl
theorem s_wheldInt64S_ok (a0 : (List Int)) (a1 : Int) (v : Int) (h : s_wheldInt64S a0 a1 = some v) : (f_wheldInt64S_L (l_wheldInt64S v) 2 (f_wheldInt64S_s2 a1 0 a0)) = some (l_wheldInt64S v) := by
  replace h : sem (fun w => l_wheldInt64S v = l_wheldInt64S w) (s_wheldInt64S a0 a1) := ⟨v, h, rfl⟩
  unfold s_wheldInt64S at h
  exact f_wheldInt64S_go2 (l_wheldInt64S v) _ h
noncomputable def c_wheldInt64S : List A → ACall
  | [.lst (.one (.i .i64)) a0, .v (.int .i64 a1)] => ⟨Int, s_wheldInt64S a0 a1, fun r => .one (.v (.int .i64 r))⟩
  | _ => ACall.fail
theorem f_wheldInt64S_sound : Sound Try.prog 39 c_wheldInt64S := by
  refine good f_wheldInt64S_ctx f_wheldInt64S_LV f_wheldInt64S_c f_wheldInt64S_rv 2 Try.func39 fun rs => ?_
  unfold c_wheldInt64S
  split
  · rename_i a0 a1; intro v h; exact ⟨rfl, l_wheldInt64S v, rfl, (f_wheldInt64S_top a0 a1 _).trans (s_wheldInt64S_ok a0 a1 v h)⟩
  · intro v h; cases h

/-! ### function 17: loop.example/g01322/laws.heldInt64SS -/
noncomputable def f_wheldInt64SS_c := codeC Try.f17
noncomputable def f_wheldInt64SS_X : Ctx := ⟨TT, phiOf [(39, c_wheldInt64S)], noPsi, noXi⟩
def f_wheldInt64SS_LV : List (Nat × Keep) := [(2, ([0, 1, 5], [], []))]
def f_wheldInt64SS_rv : List ResultVar := [.tmp 4]
noncomputable def f_wheldInt64SS_L := Lq f_wheldInt64SS_X f_wheldInt64SS_LV f_wheldInt64SS_c f_wheldInt64SS_rv
theorem f_wheldInt64SS_ctx : CtxOK Try.prog f_wheldInt64SS_X := ctx_of tab mix ⟨⟨Try.call39, f_wheldInt64S_sound⟩, trivial⟩
noncomputable def f_wheldInt64SS_s2 (x0 : Int) (x1 : Int) (x2 : (List (List Int))) : AS := ⟨[(0, .a (.sl 0)), (1, .a (.v (.int .i64 x0))), (5, .a (.v (.int .i64 x1)))], [(0, some ⟨false, .arr (.one (.ls .i64)) x2⟩)], 1⟩
noncomputable def l_wheldInt64SS (r : Int) : List A := [.v (.int .i64 r)]
theorem f_wheldInt64SS_step2 (x0 : Int) (x1 : Int) (x2 : (List (List Int))) (r : List A) (h : (cond (decide (x1 < ((List.length x2 : Nat) : Int))) (cond (inB x1 (List.length x2)) (Option.bind (s_wheldInt64S (List.getD x2 (Int.toNat x1) ([] : List Int)) x0) fun r1 => (cond (decide (r1 < 0)) (some [.v (.int .i64 (-1))]) (f_wheldInt64SS_L r 2 (f_wheldInt64SS_s2 r1 (IntKind.wrap .i64 (x1 + 1)) x2)))) none) (some [.v (.int .i64 x0)])) = some r) : f_wheldInt64SS_L r 2 (f_wheldInt64SS_s2 x0 x1 x2) = some r :=
  step_of' h (by kernel_rfl)
noncomputable def f_wheldInt64SS_n2 (x0 : Int) (x1 : Int) (x2 : (List (List Int))) : Option ((Int × Int × (List (List Int))) ⊕ Int) := (cond (decide (x1 < ((List.length x2 : Nat) : Int))) (cond (inB x1 (List.length x2)) (Option.bind (s_wheldInt64S (List.getD x2 (Int.toNat x1) ([] : List Int)) x0) fun r1 => (cond (decide (r1 < 0)) (some (Sum.inr (-1))) (some (Sum.inl (r1, (IntKind.wrap .i64 (x1 + 1)), x2))))) none) (some (Sum.inr x0)))
noncomputable def f_wheldInt64SS_run2 (x : (Int × Int × (List (List Int)))) : Option Int := iter (fun x => f_wheldInt64SS_n2 x.1 x.2.1 x.2.2) FU x
noncomputable def f_wheldInt64SS_G2 (r : List A) (x : (Int × Int × (List (List Int)))) : Prop := f_wheldInt64SS_L r 2 (f_wheldInt64SS_s2 x.1 x.2.1 x.2.2) = some r
noncomputable def f_wheldInt64SS_S2 (r : List A) : Int → Prop := fun v => r = l_wheldInt64SS v
theorem f_wheldInt64SS_go2 (r : List A) : ∀ x, sem (f_wheldInt64SS_S2 r) (f_wheldInt64SS_run2 x) → f_wheldInt64SS_G2 r x :=
  fun x => iter_sound (step := fun x => f_wheldInt64SS_n2 x.1 x.2.1 x.2.2) (fun x h => by
    unfold f_wheldInt64SS_n2 at h
    exact f_wheldInt64SS_step2 x.1 x.2.1 x.2.2 r ((sem_cond h (fun h => (sem_cond h (fun h => (sem_bind h fun r1 h => (sem_cond h (fun h => sem_got h fun q => some_eq q) (fun h => sem_got h fun q => q)))) (fun h => sem_none h))) (fun h => sem_got h fun q => some_eq q)))) FU x
noncomputable def s_wheldInt64SS (a0 : (List (List Int))) (a1 : Int) : Option Int := (f_wheldInt64SS_run2 (a1, 0, a0))
theorem f_wheldInt64SS_top (a0 : (List (List Int))) (a1 : Int) (r : List A) : Tq f_wheldInt64SS_X f_wheldInt64SS_LV f_wheldInt64SS_c f_wheldInt64SS_rv r [.lst (.one (.ls .i64)) a0, .v (.int .i64 a1)] = (f_wheldInt64SS_L r 2 (f_wheldInt64SS_s2 a1 0 a0)) := by kernel_rfl
theorem s_wheldInt64SS_ok (a0 : (List (List Int))) (a1 : Int) (v : Int) (h : s_wheldInt64SS a0 a1 = some v) : (f_wheldInt64SS_L (l_wheldInt64SS v) 2 (f_wheldInt64SS_s2 a1 0 a0)) = some (l_wheldInt64SS v) := by
  replace h : sem (fun w => l_wheldInt64SS v = l_wheldInt64SS w) (s_wheldInt64SS a0 a1) := ⟨v, h, rfl⟩
  unfold s_wheldInt64SS at h
  exact f_wheldInt64SS_go2 (l_wheldInt64SS v) _ h
noncomputable def c_wheldInt64SS : List A → ACall
  | [.lst (.one (.ls .i64)) a0, .v (.int .i64 a1)] => ⟨Int, s_wheldInt64SS a0 a1, fun r => .one (.v (.int .i64 r))⟩
  | _ => ACall.fail
theorem f_wheldInt64SS_sound : Sound Try.prog 17 c_wheldInt64SS := by
  refine good f_wheldInt64SS_ctx f_wheldInt64SS_LV f_wheldInt64SS_c f_wheldInt64SS_rv 2 Try.func17 fun rs => ?_
  unfold c_wheldInt64SS
  split
  · rename_i a0 a1; intro v h; exact ⟨rfl, l_wheldInt64SS v, rfl, (f_wheldInt64SS_top a0 a1 _).trans (s_wheldInt64SS_ok a0 a1 v h)⟩
  · intro v h; cases h
end Go.RR
