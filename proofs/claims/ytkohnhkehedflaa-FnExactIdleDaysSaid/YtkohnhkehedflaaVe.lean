/- Jobs: order. -/
import Derived.Test.YtkohnhkehedflaaTb
import Derived.Test.YtkohnhkehedflaaRw
set_option linter.unusedVariables false
set_option linter.unusedSimpArgs false
set_option linter.unusedSectionVars false
set_option maxRecDepth 100000
namespace Go.RR
open Go Go.Proofs

/-! ### function 38: loop.example/g01322/laws.markInt64S -/
noncomputable def f_wmarkInt64S_c : Code := match Try.f38.body with | some c => c | none => .skip
noncomputable def f_wmarkInt64S_X : Ctx := ⟨TT, phiOf [], noPsi, noXi⟩
def f_wmarkInt64S_LV : List (Nat × Keep) := [(2, ([0, 1, 5], [], []))]
def f_wmarkInt64S_rv : List ResultVar := [.tmp 4]
noncomputable def f_wmarkInt64S_L (r : List A) : Nat → AS → Option (List A) := L f_wmarkInt64S_X (cnOfU f_wmarkInt64S_LV) f_wmarkInt64S_c (K0U TT f_wmarkInt64S_rv) r
theorem f_wmarkInt64S_ctx : CtxOK Try.prog f_wmarkInt64S_X := ctx_of tab mix trivial
noncomputable def f_wmarkInt64S_s2 (x0 : Int) (x1 : Int) (x2 : (List Int)) : AS := ⟨[(0, .a (.sl 0)), (1, .a (.v (.int .i64 x0))), (5, .a (.v (.int .i64 x1)))], [(0, some ⟨true, .arr (.one (.i .i64)) x2⟩)], 1⟩
noncomputable def l_wmarkInt64S (r : (Int × (List Int))) : List A := [.v (.int .i64 r.1), .lst (.one (.i .i64)) r.2]
theorem f_wmarkInt64S_step2 (x0 : Int) (x1 : Int) (x2 : (List Int)) (r : List A) (h : (cond (decide (x1 < ((List.length x2 : Nat) : Int))) (cond (inB x1 (List.length x2)) (f_wmarkInt64S_L r 2 (f_wmarkInt64S_s2 (IntKind.wrap .i64 (x0 + 1)) (IntKind.wrap .i64 (x1 + 1)) (List.set x2 (Int.toNat x1) x0))) none) (some [.v (.int .i64 x0), .lst (.one (.i .i64)) x2])) = some r) : f_wmarkInt64S_L r 2 (f_wmarkInt64S_s2 x0 x1 x2) = some r :=
  step_of' h (by kernel_rfl)
noncomputable def f_wmarkInt64S_n2 (x0 : Int) (x1 : Int) (x2 : (List Int)) : Option ((Int × Int × (List Int)) ⊕ (Int × (List Int))) := (cond (decide (x1 < ((List.length x2 : Nat) : Int))) (cond (inB x1 (List.length x2)) (some (Sum.inl ((IntKind.wrap .i64 (x0 + 1)), (IntKind.wrap .i64 (x1 + 1)), (List.set x2 (Int.toNat x1) x0)))) none) (some (Sum.inr (x0, x2))))
noncomputable def f_wmarkInt64S_run2 (x : (Int × Int × (List Int))) : Option (Int × (List Int)) := iter (fun x => f_wmarkInt64S_n2 x.1 x.2.1 x.2.2) FU x
noncomputable def f_wmarkInt64S_G2 (r : List A) (x : (Int × Int × (List Int))) : Prop := f_wmarkInt64S_L r 2 (f_wmarkInt64S_s2 x.1 x.2.1 x.2.2) = some r
noncomputable def f_wmarkInt64S_S2 (r : List A) : (Int × (List Int)) → Prop := fun v => r = l_wmarkInt64S v
theorem f_wmarkInt64S_go2 (r : List A) : ∀ x, sem (f_wmarkInt64S_S2 r) (f_wmarkInt64S_run2 x) → f_wmarkInt64S_G2 r x :=
  fun x => iter_sound (step := fun x => f_wmarkInt64S_n2 x.1 x.2.1 x.2.2) (fun x h => by
    unfold f_wmarkInt64S_n2 at h
    exact f_wmarkInt64S_step2 x.1 x.2.1 x.2.2 r ((sem_cond h (fun h => (sem_cond h (fun h => sem_got h fun q => q) (fun h => sem_none h))) (fun h => sem_got h fun q => some_eq q)))) FU x
noncomputable def s_wmarkInt64S (a0 : (List Int)) (a1 : Int) : Option (Int × (List Int)) := (f_wmarkInt64S_run2 (a1, 0, a0))
theorem f_wmarkInt64S_top (a0 : (List Int)) (a1 : Int) (r : List A) : ev f_wmarkInt64S_X (lpc (cnOfU f_wmarkInt64S_LV) (f_wmarkInt64S_L r)) f_wmarkInt64S_c (K0U TT f_wmarkInt64S_rv) (enterU (.one (.i .i64)) a0 [.v (.int .i64 a1)]) = (f_wmarkInt64S_L r 2 (f_wmarkInt64S_s2 a1 0 a0)) := by kernel_rfl
theorem s_wmarkInt64S_ok (a0 : (List Int)) (a1 : Int) (v : (Int × (List Int))) (h : s_wmarkInt64S a0 a1 = some v) : (f_wmarkInt64S_L (l_wmarkInt64S v) 2 (f_wmarkInt64S_s2 a1 0 a0)) = some (l_wmarkInt64S v) := by
  unfold s_wmarkInt64S at h
  have go : ∀ r, sem (fun v => r = l_wmarkInt64S v) ((f_wmarkInt64S_run2 (a1, 0, a0))) → (f_wmarkInt64S_L r 2 (f_wmarkInt64S_s2 a1 0 a0)) = some r := fun r h => f_wmarkInt64S_go2 r _ h
  exact go (l_wmarkInt64S v) ⟨v, h, rfl⟩
noncomputable def u_wmarkInt64S : UCon := fun e l rest => match e, l, rest with
  | (.one (.i .i64)), a0, [.v (.int .i64 a1)] => ⟨(Int × (List Int)), s_wmarkInt64S a0 a1, fun r => some (.v (.int .i64 r.1)), fun r => r.2⟩
  | _, _, _ => UCall.fail
theorem f_wmarkInt64S_sound : USound Try.prog 38 u_wmarkInt64S := by
  refine sound_goodU f_wmarkInt64S_ctx f_wmarkInt64S_LV 2 Try.func38 (c := f_wmarkInt64S_c) (by kernel_rfl) (rv := f_wmarkInt64S_rv) (by kernel_rfl) (by kernel_rfl) (by kernel_rfl) (by kernel_rfl) fun e l rest => ?_
  unfold u_wmarkInt64S
  split
  · rename_i a0 a1; intro v h; exact ⟨rfl, (f_wmarkInt64S_top a0 a1 _).trans (s_wmarkInt64S_ok a0 a1 v h)⟩
  · intro v h; cases h

/-! ### function 36: loop.example/g01322/laws.markJobS -/
noncomputable def f_wmarkJobS_c : Code := match Try.f36.body with | some c => c | none => .skip
noncomputable def f_wmarkJobS_X : Ctx := ⟨TT, phiOf [], noPsi, noXi⟩
def f_wmarkJobS_LV : List (Nat × Keep) := [(2, ([0, 1, 5], [], []))]
def f_wmarkJobS_rv : List ResultVar := [.tmp 4]
noncomputable def f_wmarkJobS_L (r : List A) : Nat → AS → Option (List A) := L f_wmarkJobS_X (cnOfU f_wmarkJobS_LV) f_wmarkJobS_c (K0U TT f_wmarkJobS_rv) r
theorem f_wmarkJobS_ctx : CtxOK Try.prog f_wmarkJobS_X := ctx_of tab mix trivial
noncomputable def f_wmarkJobS_s2 (x0 : Int) (x1 : Int) (x2 : (List (Int × Int))) : AS := ⟨[(0, .a (.sl 0)), (1, .a (.v (.int .i64 x0))), (5, .a (.v (.int .i64 x1)))], [(0, some ⟨true, .arr (.st [(.i .i8), (.i .u16)]) x2⟩)], 1⟩
noncomputable def l_wmarkJobS (r : (Int × (List (Int × Int)))) : List A := [.v (.int .i64 r.1), .lst (.st [(.i .i8), (.i .u16)]) r.2]
theorem f_wmarkJobS_step2 (x0 : Int) (x1 : Int) (x2 : (List (Int × Int))) (r : List A) (h : (cond (decide (x1 < ((List.length x2 : Nat) : Int))) (cond (inB x1 (List.length x2)) (cond (inB x1 (List.length (List.set x2 (Int.toNat x1) ((IntKind.wrap .i8 x0), (List.getD x2 (Int.toNat x1) ((0, 0) : (Int × Int))).2)))) (f_wmarkJobS_L r 2 (f_wmarkJobS_s2 (IntKind.wrap .i64 ((IntKind.wrap .i64 (x0 + 1)) + 1)) (IntKind.wrap .i64 (x1 + 1)) (List.set (List.set x2 (Int.toNat x1) ((IntKind.wrap .i8 x0), (List.getD x2 (Int.toNat x1) ((0, 0) : (Int × Int))).2)) (Int.toNat x1) ((List.getD (List.set x2 (Int.toNat x1) ((IntKind.wrap .i8 x0), (List.getD x2 (Int.toNat x1) ((0, 0) : (Int × Int))).2)) (Int.toNat x1) ((0, 0) : (Int × Int))).1, (IntKind.wrap .u16 (IntKind.wrap .i64 (x0 + 1))))))) none) none) (some [.v (.int .i64 x0), .lst (.st [(.i .i8), (.i .u16)]) x2])) = some r) : f_wmarkJobS_L r 2 (f_wmarkJobS_s2 x0 x1 x2) = some r :=
  step_of' h (by kernel_rfl)
noncomputable def f_wmarkJobS_n2 (x0 : Int) (x1 : Int) (x2 : (List (Int × Int))) : Option ((Int × Int × (List (Int × Int))) ⊕ (Int × (List (Int × Int)))) := (cond (decide (x1 < ((List.length x2 : Nat) : Int))) (cond (inB x1 (List.length x2)) (cond (inB x1 (List.length (List.set x2 (Int.toNat x1) ((IntKind.wrap .i8 x0), (List.getD x2 (Int.toNat x1) ((0, 0) : (Int × Int))).2)))) (some (Sum.inl ((IntKind.wrap .i64 ((IntKind.wrap .i64 (x0 + 1)) + 1)), (IntKind.wrap .i64 (x1 + 1)), (List.set (List.set x2 (Int.toNat x1) ((IntKind.wrap .i8 x0), (List.getD x2 (Int.toNat x1) ((0, 0) : (Int × Int))).2)) (Int.toNat x1) ((List.getD (List.set x2 (Int.toNat x1) ((IntKind.wrap .i8 x0), (List.getD x2 (Int.toNat x1) ((0, 0) : (Int × Int))).2)) (Int.toNat x1) ((0, 0) : (Int × Int))).1, (IntKind.wrap .u16 (IntKind.wrap .i64 (x0 + 1)))))))) none) none) (some (Sum.inr (x0, x2))))
noncomputable def f_wmarkJobS_run2 (x : (Int × Int × (List (Int × Int)))) : Option (Int × (List (Int × Int))) := iter (fun x => f_wmarkJobS_n2 x.1 x.2.1 x.2.2) FU x
noncomputable def f_wmarkJobS_G2 (r : List A) (x : (Int × Int × (List (Int × Int)))) : Prop := f_wmarkJobS_L r 2 (f_wmarkJobS_s2 x.1 x.2.1 x.2.2) = some r
noncomputable def f_wmarkJobS_S2 (r : List A) : (Int × (List (Int × Int))) → Prop := fun v => r = l_wmarkJobS v
theorem f_wmarkJobS_go2 (r : List A) : ∀ x, sem (f_wmarkJobS_S2 r) (f_wmarkJobS_run2 x) → f_wmarkJobS_G2 r x :=
  fun x => iter_sound (step := fun x => f_wmarkJobS_n2 x.1 x.2.1 x.2.2) (fun x h => by
    unfold f_wmarkJobS_n2 at h
    exact f_wmarkJobS_step2 x.1 x.2.1 x.2.2 r ((sem_cond h (fun h => (sem_cond h (fun h => (sem_cond h (fun h => sem_got h fun q => q) (fun h => sem_none h))) (fun h => sem_none h))) (fun h => sem_got h fun q => some_eq q)))) FU x
noncomputable def s_wmarkJobS (a0 : (List (Int × Int))) (a1 : Int) : Option (Int × (List (Int × Int))) := (f_wmarkJobS_run2 (a1, 0, a0))
theorem f_wmarkJobS_top (a0 : (List (Int × Int))) (a1 : Int) (r : List A) : ev f_wmarkJobS_X (lpc (cnOfU f_wmarkJobS_LV) (f_wmarkJobS_L r)) f_wmarkJobS_c (K0U TT f_wmarkJobS_rv) (enterU (.st [(.i .i8), (.i .u16)]) a0 [.v (.int .i64 a1)]) = (f_wmarkJobS_L r 2 (f_wmarkJobS_s2 a1 0 a0)) := by kernel_rfl
theorem s_wmarkJobS_ok (a0 : (List (Int × Int))) (a1 : Int) (v : (Int × (List (Int × Int)))) (h : s_wmarkJobS a0 a1 = some v) : (f_wmarkJobS_L (l_wmarkJobS v) 2 (f_wmarkJobS_s2 a1 0 a0)) = some (l_wmarkJobS v) := by
  unfold s_wmarkJobS at h
  have go : ∀ r, sem (fun v => r = l_wmarkJobS v) ((f_wmarkJobS_run2 (a1, 0, a0))) → (f_wmarkJobS_L r 2 (f_wmarkJobS_s2 a1 0 a0)) = some r := fun r h => f_wmarkJobS_go2 r _ h
  exact go (l_wmarkJobS v) ⟨v, h, rfl⟩
noncomputable def u_wmarkJobS : UCon := fun e l rest => match e, l, rest with
  | (.st [(.i .i8), (.i .u16)]), a0, [.v (.int .i64 a1)] => ⟨(Int × (List (Int × Int))), s_wmarkJobS a0 a1, fun r => some (.v (.int .i64 r.1)), fun r => r.2⟩
  | _, _, _ => UCall.fail
theorem f_wmarkJobS_sound : USound Try.prog 36 u_wmarkJobS := by
  refine sound_goodU f_wmarkJobS_ctx f_wmarkJobS_LV 2 Try.func36 (c := f_wmarkJobS_c) (by kernel_rfl) (rv := f_wmarkJobS_rv) (by kernel_rfl) (by kernel_rfl) (by kernel_rfl) (by kernel_rfl) fun e l rest => ?_
  unfold u_wmarkJobS
  split
  · rename_i a0 a1; intro v h; exact ⟨rfl, (f_wmarkJobS_top a0 a1 _).trans (s_wmarkJobS_ok a0 a1 v h)⟩
  · intro v h; cases h

/-! ### function 92: loop.example/g01322/impl.within -/
noncomputable def f_iwithin_c : Code := match Try.f92.body with | some c => c | none => .skip
noncomputable def f_iwithin_X : Ctx := ⟨TT, phiOf [], noPsi, noXi⟩
def f_iwithin_LV : List (Nat × Keep) := []
def f_iwithin_rv : List ResultVar := [.tmp 6]
noncomputable def f_iwithin_L (r : List A) : Nat → AS → Option (List A) := L f_iwithin_X (cnOf f_iwithin_LV) f_iwithin_c (K0 TT f_iwithin_rv) r
theorem f_iwithin_ctx : CtxOK Try.prog f_iwithin_X := ctx_of tab mix trivial
noncomputable def s_iwithin (a0 : Int) (a1 : Int) (a2 : Int) : Bool := (cond (decide (a1 ≤ a0)) (decide (a0 ≤ a2)) false)
theorem f_iwithin_top (a0 : Int) (a1 : Int) (a2 : Int) (r : List A) : ev f_iwithin_X (lpc (cnOf f_iwithin_LV) (f_iwithin_L r)) f_iwithin_c (K0 TT f_iwithin_rv) (enter [.v (.int .i64 a0), .v (.int .i64 a1), .v (.int .i64 a2)]) = (cond (decide (a1 ≤ a0)) (some [.v (.bool (decide (a0 ≤ a2)))]) (some [.v (.bool false)])) := by kernel_rfl
noncomputable def l_iwithin (r : Bool) : List A := [.v (.bool r)]
theorem s_iwithin_ok (a0 : Int) (a1 : Int) (a2 : Int) : (cond (decide (a1 ≤ a0)) (some [.v (.bool (decide (a0 ≤ a2)))]) (some [.v (.bool false)])) = some (l_iwithin (s_iwithin a0 a1 a2)) := by
  unfold s_iwithin
  exact (cond_app (fun x => some (l_iwithin x)) rfl rfl)
noncomputable def c_iwithin : List A → ACall
  | [.v (.int .i64 a0), .v (.int .i64 a1), .v (.int .i64 a2)] => ⟨Bool, some (s_iwithin a0 a1 a2), fun r => .one (.v (.bool r))⟩
  | _ => ACall.fail
theorem f_iwithin_sound : Sound Try.prog 92 c_iwithin := by
  refine sound_good f_iwithin_ctx f_iwithin_LV 3 Try.func92 (c := f_iwithin_c) (by kernel_rfl) (rv := f_iwithin_rv) (by kernel_rfl) (by kernel_rfl) (by kernel_rfl) (by kernel_rfl) fun rs => ?_
  unfold c_iwithin
  split
  · rename_i a0 a1 a2; intro v h; cases h; exact ⟨rfl, l_iwithin (s_iwithin a0 a1 a2), rfl, (f_iwithin_top a0 a1 a2 _).trans (s_iwithin_ok a0 a1 a2)⟩
  · intro v h; cases h

/-! ### function 91: loop.example/g01322/impl.codeOf -/
noncomputable def f_icodeOf_c : Code := match Try.f91.body with | some c => c | none => .skip
noncomputable def f_icodeOf_X : Ctx := ⟨TT, phiOf [], noPsi, noXi⟩
def f_icodeOf_LV : List (Nat × Keep) := []
def f_icodeOf_rv : List ResultVar := [.tmp 4]
noncomputable def f_icodeOf_L (r : List A) : Nat → AS → Option (List A) := L f_icodeOf_X (cnOf f_icodeOf_LV) f_icodeOf_c (K0 TT f_icodeOf_rv) r
theorem f_icodeOf_ctx : CtxOK Try.prog f_icodeOf_X := ctx_of tab mix trivial
noncomputable def s_icodeOf (a0 : Bool) (a1 : Bool) : Int := (cond (!a0) 1 (cond (!a1) 2 0))
theorem f_icodeOf_top (a0 : Bool) (a1 : Bool) (r : List A) : ev f_icodeOf_X (lpc (cnOf f_icodeOf_LV) (f_icodeOf_L r)) f_icodeOf_c (K0 TT f_icodeOf_rv) (enter [.v (.bool a0), .v (.bool a1)]) = (cond (!a0) (some [.v (.int .i64 1)]) (cond (!a1) (some [.v (.int .i64 2)]) (some [.v (.int .i64 0)]))) := by kernel_rfl
noncomputable def l_icodeOf (r : Int) : List A := [.v (.int .i64 r)]
theorem s_icodeOf_ok (a0 : Bool) (a1 : Bool) : (cond (!a0) (some [.v (.int .i64 1)]) (cond (!a1) (some [.v (.int .i64 2)]) (some [.v (.int .i64 0)]))) = some (l_icodeOf (s_icodeOf a0 a1)) := by
  unfold s_icodeOf
  exact (cond_app (fun x => some (l_icodeOf x)) rfl (cond_app (fun x => some (l_icodeOf x)) rfl rfl))
noncomputable def c_icodeOf : List A → ACall
  | [.v (.bool a0), .v (.bool a1)] => ⟨Int, some (s_icodeOf a0 a1), fun r => .one (.v (.int .i64 r))⟩
  | _ => ACall.fail
theorem f_icodeOf_sound : Sound Try.prog 91 c_icodeOf := by
  refine sound_good f_icodeOf_ctx f_icodeOf_LV 2 Try.func91 (c := f_icodeOf_c) (by kernel_rfl) (rv := f_icodeOf_rv) (by kernel_rfl) (by kernel_rfl) (by kernel_rfl) (by kernel_rfl) fun rs => ?_
  unfold c_icodeOf
  split
  · rename_i a0 a1; intro v h; cases h; exact ⟨rfl, l_icodeOf (s_icodeOf a0 a1), rfl, (f_icodeOf_top a0 a1 _).trans (s_icodeOf_ok a0 a1)⟩
  · intro v h; cases h

/-! ### function 93: loop.example/g01322/spec.l00In -/
noncomputable def f_sl00In_c : Code := match Try.f93.body with | some c => c | none => .skip
noncomputable def f_sl00In_X : Ctx := ⟨TT, phiOf [], noPsi, noXi⟩
def f_sl00In_LV : List (Nat × Keep) := []
def f_sl00In_rv : List ResultVar := [.tmp 6]
noncomputable def f_sl00In_L (r : List A) : Nat → AS → Option (List A) := L f_sl00In_X (cnOf f_sl00In_LV) f_sl00In_c (K0 TT f_sl00In_rv) r
theorem f_sl00In_ctx : CtxOK Try.prog f_sl00In_X := ctx_of tab mix trivial
noncomputable def s_sl00In (a0 : Int) (a1 : Int) (a2 : Int) : Bool := (cond (decide (a0 ≥ a1)) (decide (a0 ≤ a2)) false)
theorem f_sl00In_top (a0 : Int) (a1 : Int) (a2 : Int) (r : List A) : ev f_sl00In_X (lpc (cnOf f_sl00In_LV) (f_sl00In_L r)) f_sl00In_c (K0 TT f_sl00In_rv) (enter [.v (.int .i64 a0), .v (.int .i64 a1), .v (.int .i64 a2)]) = (cond (decide (a0 ≥ a1)) (some [.v (.bool (decide (a0 ≤ a2)))]) (some [.v (.bool false)])) := by kernel_rfl
noncomputable def l_sl00In (r : Bool) : List A := [.v (.bool r)]
theorem s_sl00In_ok (a0 : Int) (a1 : Int) (a2 : Int) : (cond (decide (a0 ≥ a1)) (some [.v (.bool (decide (a0 ≤ a2)))]) (some [.v (.bool false)])) = some (l_sl00In (s_sl00In a0 a1 a2)) := by
  unfold s_sl00In
  exact (cond_app (fun x => some (l_sl00In x)) rfl rfl)
noncomputable def c_sl00In : List A → ACall
  | [.v (.int .i64 a0), .v (.int .i64 a1), .v (.int .i64 a2)] => ⟨Bool, some (s_sl00In a0 a1 a2), fun r => .one (.v (.bool r))⟩
  | _ => ACall.fail
theorem f_sl00In_sound : Sound Try.prog 93 c_sl00In := by
  refine sound_good f_sl00In_ctx f_sl00In_LV 3 Try.func93 (c := f_sl00In_c) (by kernel_rfl) (rv := f_sl00In_rv) (by kernel_rfl) (by kernel_rfl) (by kernel_rfl) (by kernel_rfl) fun rs => ?_
  unfold c_sl00In
  split
  · rename_i a0 a1 a2; intro v h; cases h; exact ⟨rfl, l_sl00In (s_sl00In a0 a1 a2), rfl, (f_sl00In_top a0 a1 a2 _).trans (s_sl00In_ok a0 a1 a2)⟩
  · intro v h; cases h

/-! ### function 34: loop.example/g01322/laws.eqInt64S -/
noncomputable def f_weqInt64S_c : Code := match Try.f34.body with | some c => c | none => .skip
noncomputable def f_weqInt64S_X : Ctx := ⟨TT, phiOf [], noPsi, noXi⟩
def f_weqInt64S_LV : List (Nat × Keep) := [(4, ([0, 1, 5], [], []))]
def f_weqInt64S_rv : List ResultVar := [.tmp 4]
noncomputable def f_weqInt64S_L (r : List A) : Nat → AS → Option (List A) := L f_weqInt64S_X (cnOf f_weqInt64S_LV) f_weqInt64S_c (K0 TT f_weqInt64S_rv) r
theorem f_weqInt64S_ctx : CtxOK Try.prog f_weqInt64S_X := ctx_of tab mix trivial
noncomputable def f_weqInt64S_s4 (x0 : Int) (x1 : (List Int)) (x2 : (List Int)) : AS := ⟨[(0, .a (.sl 0)), (1, .a (.sl 1)), (5, .a (.v (.int .i64 x0)))], [(0, some ⟨false, .arr (.one (.i .i64)) x1⟩), (1, some ⟨false, .arr (.one (.i .i64)) x2⟩)], 2⟩
noncomputable def l_weqInt64S (r : Bool) : List A := [.v (.bool r)]
theorem f_weqInt64S_step4 (x0 : Int) (x1 : (List Int)) (x2 : (List Int)) (r : List A) (h : (cond (decide (x0 < ((List.length x1 : Nat) : Int))) (cond (inB x0 (List.length x1)) (cond (inB x0 (List.length x2)) (cond ((List.getD x1 (Int.toNat x0) 0) != (List.getD x2 (Int.toNat x0) 0)) (some [.v (.bool false)]) (f_weqInt64S_L r 4 (f_weqInt64S_s4 (IntKind.wrap .i64 (x0 + 1)) x1 x2))) none) none) (some [.v (.bool true)])) = some r) : f_weqInt64S_L r 4 (f_weqInt64S_s4 x0 x1 x2) = some r :=
  step_of' h (by kernel_rfl)
noncomputable def f_weqInt64S_n4 (x0 : Int) (x1 : (List Int)) (x2 : (List Int)) : Option ((Int × (List Int) × (List Int)) ⊕ Bool) := (cond (decide (x0 < ((List.length x1 : Nat) : Int))) (cond (inB x0 (List.length x1)) (cond (inB x0 (List.length x2)) (cond ((List.getD x1 (Int.toNat x0) 0) != (List.getD x2 (Int.toNat x0) 0)) (some (Sum.inr false)) (some (Sum.inl ((IntKind.wrap .i64 (x0 + 1)), x1, x2)))) none) none) (some (Sum.inr true)))
noncomputable def f_weqInt64S_run4 (x : (Int × (List Int) × (List Int))) : Option Bool := iter (fun x => f_weqInt64S_n4 x.1 x.2.1 x.2.2) FU x
noncomputable def f_weqInt64S_G4 (r : List A) (x : (Int × (List Int) × (List Int))) : Prop := f_weqInt64S_L r 4 (f_weqInt64S_s4 x.1 x.2.1 x.2.2) = some r
noncomputable def f_weqInt64S_S4 (r : List A) : Bool → Prop := fun v => r = l_weqInt64S v
theorem f_weqInt64S_go4 (r : List A) : ∀ x, sem (f_weqInt64S_S4 r) (f_weqInt64S_run4 x) → f_weqInt64S_G4 r x :=
  fun x => iter_sound (step := fun x => f_weqInt64S_n4 x.1 x.2.1 x.2.2) (fun x h => by
    unfold f_weqInt64S_n4 at h
    exact f_weqInt64S_step4 x.1 x.2.1 x.2.2 r ((sem_cond h (fun h => (sem_cond h (fun h => (sem_cond h (fun h => (sem_cond h (fun h => sem_got h fun q => some_eq q) (fun h => sem_got h fun q => q))) (fun h => sem_none h))) (fun h => sem_none h))) (fun h => sem_got h fun q => some_eq q)))) FU x
noncomputable def s_weqInt64S (a0 : (List Int)) (a1 : (List Int)) : Option Bool := (cond (((List.length a0 : Nat) : Int) != ((List.length a1 : Nat) : Int)) (some false) (f_weqInt64S_run4 (0, a0, a1)))
theorem f_weqInt64S_top (a0 : (List Int)) (a1 : (List Int)) (r : List A) : ev f_weqInt64S_X (lpc (cnOf f_weqInt64S_LV) (f_weqInt64S_L r)) f_weqInt64S_c (K0 TT f_weqInt64S_rv) (enter [.lst (.one (.i .i64)) a0, .lst (.one (.i .i64)) a1]) = (cond (((List.length a0 : Nat) : Int) != ((List.length a1 : Nat) : Int)) (some [.v (.bool false)]) (f_weqInt64S_L r 4 (f_weqInt64S_s4 0 a0 a1))) := by kernel_rfl
theorem s_weqInt64S_ok (a0 : (List Int)) (a1 : (List Int)) (v : Bool) (h : s_weqInt64S a0 a1 = some v) : (cond (((List.length a0 : Nat) : Int) != ((List.length a1 : Nat) : Int)) (some [.v (.bool false)]) (f_weqInt64S_L (l_weqInt64S v) 4 (f_weqInt64S_s4 0 a0 a1))) = some (l_weqInt64S v) := by
  unfold s_weqInt64S at h
  have go : ∀ r, sem (fun v => r = l_weqInt64S v) ((cond (((List.length a0 : Nat) : Int) != ((List.length a1 : Nat) : Int)) (some false) (f_weqInt64S_run4 (0, a0, a1)))) → (cond (((List.length a0 : Nat) : Int) != ((List.length a1 : Nat) : Int)) (some [.v (.bool false)]) (f_weqInt64S_L r 4 (f_weqInt64S_s4 0 a0 a1))) = some r := fun r h => (sem_cond h (fun h => sem_got h fun q => some_eq q) (fun h => f_weqInt64S_go4 r _ h))
  exact go (l_weqInt64S v) ⟨v, h, rfl⟩
noncomputable def c_weqInt64S : List A → ACall
  | [.lst (.one (.i .i64)) a0, .lst (.one (.i .i64)) a1] => ⟨Bool, s_weqInt64S a0 a1, fun r => .one (.v (.bool r))⟩
  | _ => ACall.fail
theorem f_weqInt64S_sound : Sound Try.prog 34 c_weqInt64S := by
  refine sound_good f_weqInt64S_ctx f_weqInt64S_LV 2 Try.func34 (c := f_weqInt64S_c) (by kernel_rfl) (rv := f_weqInt64S_rv) (by kernel_rfl) (by kernel_rfl) (by kernel_rfl) (by kernel_rfl) fun rs => ?_
  unfold c_weqInt64S
  split
  · rename_i a0 a1; intro v h; exact ⟨rfl, l_weqInt64S v, rfl, (f_weqInt64S_top a0 a1 _).trans (s_weqInt64S_ok a0 a1 v h)⟩
  · intro v h; cases h

/-! ### function 41: loop.example/g01322/laws.toInt64S -/
noncomputable def f_wtoInt64S_c : Code := match Try.f41.body with | some c => c | none => .skip
noncomputable def f_wtoInt64S_X : Ctx := ⟨TT, phiOf [], noPsi, noXi⟩
def f_wtoInt64S_LV : List (Nat × Keep) := [(3, ([0, 3, 4], [], []))]
def f_wtoInt64S_rv : List ResultVar := [.tmp 2]
noncomputable def f_wtoInt64S_L (r : List A) : Nat → AS → Option (List A) := L f_wtoInt64S_X (cnOf f_wtoInt64S_LV) f_wtoInt64S_c (K0 TT f_wtoInt64S_rv) r
theorem f_wtoInt64S_ctx : CtxOK Try.prog f_wtoInt64S_X := ctx_of tab mix trivial
noncomputable def f_wtoInt64S_s3 (x0 : Int) (x1 : (List Int)) (x2 : (List Int)) : AS := ⟨[(0, .a (.sl 0)), (3, .a (.sl 1)), (4, .a (.v (.int .i64 x0)))], [(0, some ⟨false, .arr (.one (.i .i64)) x1⟩), (1, some ⟨true, .arr (.one (.i .i64)) x2⟩)], 2⟩
noncomputable def l_wtoInt64S (r : (List Int)) : List A := [.lst (.one (.i .i64)) r]
theorem f_wtoInt64S_step3 (x0 : Int) (x1 : (List Int)) (x2 : (List Int)) (r : List A) (h : (cond (decide (x0 < ((List.length x1 : Nat) : Int))) (cond (inB x0 (List.length x1)) (cond (inB x0 (List.length x2)) (f_wtoInt64S_L r 3 (f_wtoInt64S_s3 (IntKind.wrap .i64 (x0 + 1)) x1 (List.set x2 (Int.toNat x0) (List.getD x1 (Int.toNat x0) 0)))) none) none) (some [.lst (.one (.i .i64)) x2])) = some r) : f_wtoInt64S_L r 3 (f_wtoInt64S_s3 x0 x1 x2) = some r :=
  step_of' h (by kernel_rfl)
noncomputable def f_wtoInt64S_n3 (x0 : Int) (x1 : (List Int)) (x2 : (List Int)) : Option ((Int × (List Int) × (List Int)) ⊕ (List Int)) := (cond (decide (x0 < ((List.length x1 : Nat) : Int))) (cond (inB x0 (List.length x1)) (cond (inB x0 (List.length x2)) (some (Sum.inl ((IntKind.wrap .i64 (x0 + 1)), x1, (List.set x2 (Int.toNat x0) (List.getD x1 (Int.toNat x0) 0))))) none) none) (some (Sum.inr x2)))
noncomputable def f_wtoInt64S_run3 (x : (Int × (List Int) × (List Int))) : Option (List Int) := iter (fun x => f_wtoInt64S_n3 x.1 x.2.1 x.2.2) FU x
noncomputable def f_wtoInt64S_G3 (r : List A) (x : (Int × (List Int) × (List Int))) : Prop := f_wtoInt64S_L r 3 (f_wtoInt64S_s3 x.1 x.2.1 x.2.2) = some r
noncomputable def f_wtoInt64S_S3 (r : List A) : (List Int) → Prop := fun v => r = l_wtoInt64S v
theorem f_wtoInt64S_go3 (r : List A) : ∀ x, sem (f_wtoInt64S_S3 r) (f_wtoInt64S_run3 x) → f_wtoInt64S_G3 r x :=
  fun x => iter_sound (step := fun x => f_wtoInt64S_n3 x.1 x.2.1 x.2.2) (fun x h => by
    unfold f_wtoInt64S_n3 at h
    exact f_wtoInt64S_step3 x.1 x.2.1 x.2.2 r ((sem_cond h (fun h => (sem_cond h (fun h => (sem_cond h (fun h => sem_got h fun q => q) (fun h => sem_none h))) (fun h => sem_none h))) (fun h => sem_got h fun q => some_eq q)))) FU x
noncomputable def s_wtoInt64S (a0 : (List Int)) : Option (List Int) := (cond (decide (0 ≤ ((List.length a0 : Nat) : Int)) && decide (((List.length a0 : Nat) : Int) = ((List.length a0 : Nat) : Int)) && fits ((Int.toNat ((List.length a0 : Nat) : Int)) * 8)) (f_wtoInt64S_run3 (0, a0, (List.replicate (Int.toNat ((List.length a0 : Nat) : Int)) 0))) none)
theorem f_wtoInt64S_top (a0 : (List Int)) (r : List A) : ev f_wtoInt64S_X (lpc (cnOf f_wtoInt64S_LV) (f_wtoInt64S_L r)) f_wtoInt64S_c (K0 TT f_wtoInt64S_rv) (enter [.lst (.one (.i .i64)) a0]) = (cond (decide (0 ≤ ((List.length a0 : Nat) : Int)) && decide (((List.length a0 : Nat) : Int) = ((List.length a0 : Nat) : Int)) && fits ((Int.toNat ((List.length a0 : Nat) : Int)) * 8)) (f_wtoInt64S_L r 3 (f_wtoInt64S_s3 0 a0 (List.replicate (Int.toNat ((List.length a0 : Nat) : Int)) 0))) none) := by kernel_rfl
theorem s_wtoInt64S_ok (a0 : (List Int)) (v : (List Int)) (h : s_wtoInt64S a0 = some v) : (cond (decide (0 ≤ ((List.length a0 : Nat) : Int)) && decide (((List.length a0 : Nat) : Int) = ((List.length a0 : Nat) : Int)) && fits ((Int.toNat ((List.length a0 : Nat) : Int)) * 8)) (f_wtoInt64S_L (l_wtoInt64S v) 3 (f_wtoInt64S_s3 0 a0 (List.replicate (Int.toNat ((List.length a0 : Nat) : Int)) 0))) none) = some (l_wtoInt64S v) := by
  unfold s_wtoInt64S at h
  have go : ∀ r, sem (fun v => r = l_wtoInt64S v) ((cond (decide (0 ≤ ((List.length a0 : Nat) : Int)) && decide (((List.length a0 : Nat) : Int) = ((List.length a0 : Nat) : Int)) && fits ((Int.toNat ((List.length a0 : Nat) : Int)) * 8)) (f_wtoInt64S_run3 (0, a0, (List.replicate (Int.toNat ((List.length a0 : Nat) : Int)) 0))) none)) → (cond (decide (0 ≤ ((List.length a0 : Nat) : Int)) && decide (((List.length a0 : Nat) : Int) = ((List.length a0 : Nat) : Int)) && fits ((Int.toNat ((List.length a0 : Nat) : Int)) * 8)) (f_wtoInt64S_L r 3 (f_wtoInt64S_s3 0 a0 (List.replicate (Int.toNat ((List.length a0 : Nat) : Int)) 0))) none) = some r := fun r h => (sem_cond h (fun h => f_wtoInt64S_go3 r _ h) (fun h => sem_none h))
  exact go (l_wtoInt64S v) ⟨v, h, rfl⟩
noncomputable def c_wtoInt64S : List A → ACall
  | [.lst (.one (.i .i64)) a0] => ⟨(List Int), s_wtoInt64S a0, fun r => .one (.lst (.one (.i .i64)) r)⟩
  | _ => ACall.fail
theorem f_wtoInt64S_sound : Sound Try.prog 41 c_wtoInt64S := by
  refine sound_good f_wtoInt64S_ctx f_wtoInt64S_LV 1 Try.func41 (c := f_wtoInt64S_c) (by kernel_rfl) (rv := f_wtoInt64S_rv) (by kernel_rfl) (by kernel_rfl) (by kernel_rfl) (by kernel_rfl) fun rs => ?_
  unfold c_wtoInt64S
  split
  · rename_i a0; intro v h; exact ⟨rfl, l_wtoInt64S v, rfl, (f_wtoInt64S_top a0 _).trans (s_wtoInt64S_ok a0 v h)⟩
  · intro v h; cases h

/-! ### function 39: loop.example/g01322/laws.heldInt64S -/
noncomputable def f_wheldInt64S_c : Code := match Try.f39.body with | some c => c | none => .skip
noncomputable def f_wheldInt64S_X : Ctx := ⟨TT, phiOf [], noPsi, noXi⟩
def f_wheldInt64S_LV : List (Nat × Keep) := [(2, ([0, 1, 5], [], []))]
def f_wheldInt64S_rv : List ResultVar := [.tmp 4]
noncomputable def f_wheldInt64S_L (r : List A) : Nat → AS → Option (List A) := L f_wheldInt64S_X (cnOf f_wheldInt64S_LV) f_wheldInt64S_c (K0 TT f_wheldInt64S_rv) r
theorem f_wheldInt64S_ctx : CtxOK Try.prog f_wheldInt64S_X := ctx_of tab mix trivial
noncomputable def f_wheldInt64S_s2 (x0 : Int) (x1 : Int) (x2 : (List Int)) : AS := ⟨[(0, .a (.sl 0)), (1, .a (.v (.int .i64 x0))), (5, .a (.v (.int .i64 x1)))], [(0, some ⟨false, .arr (.one (.i .i64)) x2⟩)], 1⟩
noncomputable def l_wheldInt64S (r : Int) : List A := [.v (.int .i64 r)]
theorem f_wheldInt64S_step2 (x0 : Int) (x1 : Int) (x2 : (List Int)) (r : List A) (h : (cond (decide (x1 < ((List.length x2 : Nat) : Int))) (cond (inB x1 (List.length x2)) (cond ((List.getD x2 (Int.toNat x1) 0) != x0) (some [.v (.int .i64 (-1))]) (f_wheldInt64S_L r 2 (f_wheldInt64S_s2 (IntKind.wrap .i64 (x0 + 1)) (IntKind.wrap .i64 (x1 + 1)) x2))) none) (some [.v (.int .i64 x0)])) = some r) : f_wheldInt64S_L r 2 (f_wheldInt64S_s2 x0 x1 x2) = some r :=
  step_of' h (by kernel_rfl)
noncomputable def f_wheldInt64S_n2 (x0 : Int) (x1 : Int) (x2 : (List Int)) : Option ((Int × Int × (List Int)) ⊕ Int) := (cond (decide (x1 < ((List.length x2 : Nat) : Int))) (cond (inB x1 (List.length x2)) (cond ((List.getD x2 (Int.toNat x1) 0) != x0) (some (Sum.inr (-1))) (some (Sum.inl ((IntKind.wrap .i64 (x0 + 1)), (IntKind.wrap .i64 (x1 + 1)), x2)))) none) (some (Sum.inr x0)))
noncomputable def f_wheldInt64S_run2 (x : (Int × Int × (List Int))) : Option Int := iter (fun x => f_wheldInt64S_n2 x.1 x.2.1 x.2.2) FU x
noncomputable def f_wheldInt64S_G2 (r : List A) (x : (Int × Int × (List Int))) : Prop := f_wheldInt64S_L r 2 (f_wheldInt64S_s2 x.1 x.2.1 x.2.2) = some r
noncomputable def f_wheldInt64S_S2 (r : List A) : Int → Prop := fun v => r = l_wheldInt64S v
theorem f_wheldInt64S_go2 (r : List A) : ∀ x, sem (f_wheldInt64S_S2 r) (f_wheldInt64S_run2 x) → f_wheldInt64S_G2 r x :=
  fun x => iter_sound (step := fun x => f_wheldInt64S_n2 x.1 x.2.1 x.2.2) (fun x h => by
    unfold f_wheldInt64S_n2 at h
    exact f_wheldInt64S_step2 x.1 x.2.1 x.2.2 r ((sem_cond h (fun h => (sem_cond h (fun h => (sem_cond h (fun h => sem_got h fun q => some_eq q) (fun h => sem_got h fun q => q))) (fun h => sem_none h))) (fun h => sem_got h fun q => some_eq q)))) FU x
noncomputable def s_wheldInt64S (a0 : (List Int)) (a1 : Int) : Option Int := (f_wheldInt64S_run2 (a1, 0, a0))
theorem f_wheldInt64S_top (a0 : (List Int)) (a1 : Int) (r : List A) : ev f_wheldInt64S_X (lpc (cnOf f_wheldInt64S_LV) (f_wheldInt64S_L r)) f_wheldInt64S_c (K0 TT f_wheldInt64S_rv) (enter [.lst (.one (.i .i64)) a0, .v (.int .i64 a1)]) = (f_wheldInt64S_L r 2 (f_wheldInt64S_s2 a1 0 a0)) := by kernel_rfl
theorem s_wheldInt64S_ok (a0 : (List Int)) (a1 : Int) (v : Int) (h : s_wheldInt64S a0 a1 = some v) : (f_wheldInt64S_L (l_wheldInt64S v) 2 (f_wheldInt64S_s2 a1 0 a0)) = some (l_wheldInt64S v) := by
  unfold s_wheldInt64S at h
  have go : ∀ r, sem (fun v => r = l_wheldInt64S v) ((f_wheldInt64S_run2 (a1, 0, a0))) → (f_wheldInt64S_L r 2 (f_wheldInt64S_s2 a1 0 a0)) = some r := fun r h => f_wheldInt64S_go2 r _ h
  exact go (l_wheldInt64S v) ⟨v, h, rfl⟩
noncomputable def c_wheldInt64S : List A → ACall
  | [.lst (.one (.i .i64)) a0, .v (.int .i64 a1)] => ⟨Int, s_wheldInt64S a0 a1, fun r => .one (.v (.int .i64 r))⟩
  | _ => ACall.fail
theorem f_wheldInt64S_sound : Sound Try.prog 39 c_wheldInt64S := by
  refine sound_good f_wheldInt64S_ctx f_wheldInt64S_LV 2 Try.func39 (c := f_wheldInt64S_c) (by kernel_rfl) (rv := f_wheldInt64S_rv) (by kernel_rfl) (by kernel_rfl) (by kernel_rfl) (by kernel_rfl) fun rs => ?_
  unfold c_wheldInt64S
  split
  · rename_i a0 a1; intro v h; exact ⟨rfl, l_wheldInt64S v, rfl, (f_wheldInt64S_top a0 a1 _).trans (s_wheldInt64S_ok a0 a1 v h)⟩
  · intro v h; cases h

/-! ### function 25: loop.example/g01322/laws.szJobS -/
noncomputable def f_wszJobS_c : Code := match Try.f25.body with | some c => c | none => .skip
noncomputable def f_wszJobS_X : Ctx := ⟨TT, phiOf [], noPsi, noXi⟩
def f_wszJobS_LV : List (Nat × Keep) := []
def f_wszJobS_rv : List ResultVar := [.tmp 4]
noncomputable def f_wszJobS_L (r : List A) : Nat → AS → Option (List A) := L f_wszJobS_X (cnOf f_wszJobS_LV) f_wszJobS_c (K0 TT f_wszJobS_rv) r
theorem f_wszJobS_ctx : CtxOK Try.prog f_wszJobS_X := ctx_of tab mix trivial
noncomputable def s_wszJobS (a0 : (List (Int × Int))) (a1 : Int) : Int := (cond (decide ((IntKind.wrap .i64 (a1 - ((List.length a0 : Nat) : Int))) < 0)) (-1) (IntKind.wrap .i64 (a1 - ((List.length a0 : Nat) : Int))))
theorem f_wszJobS_top (a0 : (List (Int × Int))) (a1 : Int) (r : List A) : ev f_wszJobS_X (lpc (cnOf f_wszJobS_LV) (f_wszJobS_L r)) f_wszJobS_c (K0 TT f_wszJobS_rv) (enter [.lst (.st [(.i .i8), (.i .u16)]) a0, .v (.int .i64 a1)]) = (cond (decide ((IntKind.wrap .i64 (a1 - ((List.length a0 : Nat) : Int))) < 0)) (some [.v (.int .i64 (-1))]) (some [.v (.int .i64 (IntKind.wrap .i64 (a1 - ((List.length a0 : Nat) : Int))))])) := by kernel_rfl
noncomputable def l_wszJobS (r : Int) : List A := [.v (.int .i64 r)]
theorem s_wszJobS_ok (a0 : (List (Int × Int))) (a1 : Int) : (cond (decide ((IntKind.wrap .i64 (a1 - ((List.length a0 : Nat) : Int))) < 0)) (some [.v (.int .i64 (-1))]) (some [.v (.int .i64 (IntKind.wrap .i64 (a1 - ((List.length a0 : Nat) : Int))))])) = some (l_wszJobS (s_wszJobS a0 a1)) := by
  unfold s_wszJobS
  exact (cond_app (fun x => some (l_wszJobS x)) rfl rfl)
noncomputable def c_wszJobS : List A → ACall
  | [.lst (.st [(.i .i8), (.i .u16)]) a0, .v (.int .i64 a1)] => ⟨Int, some (s_wszJobS a0 a1), fun r => .one (.v (.int .i64 r))⟩
  | _ => ACall.fail
theorem f_wszJobS_sound : Sound Try.prog 25 c_wszJobS := by
  refine sound_good f_wszJobS_ctx f_wszJobS_LV 2 Try.func25 (c := f_wszJobS_c) (by kernel_rfl) (rv := f_wszJobS_rv) (by kernel_rfl) (by kernel_rfl) (by kernel_rfl) (by kernel_rfl) fun rs => ?_
  unfold c_wszJobS
  split
  · rename_i a0 a1; intro v h; cases h; exact ⟨rfl, l_wszJobS (s_wszJobS a0 a1), rfl, (f_wszJobS_top a0 a1 _).trans (s_wszJobS_ok a0 a1)⟩
  · intro v h; cases h

/-! ### function 107: loop.example/g01322/laws.toJob -/
noncomputable def f_wtoJob_c : Code := match Try.f107.body with | some c => c | none => .skip
noncomputable def f_wtoJob_X : Ctx := ⟨TT, phiOf [], noPsi, noXi⟩
def f_wtoJob_LV : List (Nat × Keep) := []
def f_wtoJob_rv : List ResultVar := [.cell 2 99]
noncomputable def f_wtoJob_L (r : List A) : Nat → AS → Option (List A) := L f_wtoJob_X (cnOf f_wtoJob_LV) f_wtoJob_c (K0 TT f_wtoJob_rv) r
theorem f_wtoJob_ctx : CtxOK Try.prog f_wtoJob_X := ctx_of tab mix trivial
noncomputable def s_wtoJob (a0 : Int) (a1 : Int) : (Int × Int) := (a0, a1)
theorem f_wtoJob_top (a0 : Int) (a1 : Int) (r : List A) : ev f_wtoJob_X (lpc (cnOf f_wtoJob_LV) (f_wtoJob_L r)) f_wtoJob_c (K0 TT f_wtoJob_rv) (enter [.rc [.v (.int .i8 a0), .v (.int .u16 a1)]]) = (some [.rc [.v (.int .i8 a0), .v (.int .u16 a1)]]) := by kernel_rfl
noncomputable def l_wtoJob (r : (Int × Int)) : List A := [.rc [.v (.int .i8 r.1), .v (.int .u16 r.2)]]
theorem s_wtoJob_ok (a0 : Int) (a1 : Int) : (some [.rc [.v (.int .i8 a0), .v (.int .u16 a1)]]) = some (l_wtoJob (s_wtoJob a0 a1)) := by
  unfold s_wtoJob
  exact rfl
noncomputable def c_wtoJob : List A → ACall
  | [.rc [.v (.int .i8 a0), .v (.int .u16 a1)]] => ⟨(Int × Int), some (s_wtoJob a0 a1), fun r => .one (.rc [.v (.int .i8 r.1), .v (.int .u16 r.2)])⟩
  | _ => ACall.fail
theorem f_wtoJob_sound : Sound Try.prog 107 c_wtoJob := by
  refine sound_good f_wtoJob_ctx f_wtoJob_LV 1 Try.func107 (c := f_wtoJob_c) (by kernel_rfl) (rv := f_wtoJob_rv) (by kernel_rfl) (by kernel_rfl) (by kernel_rfl) (by kernel_rfl) fun rs => ?_
  unfold c_wtoJob
  split
  · rename_i a0 a1; intro v h; cases h; exact ⟨rfl, l_wtoJob (s_wtoJob a0 a1), rfl, (f_wtoJob_top a0 a1 _).trans (s_wtoJob_ok a0 a1)⟩
  · intro v h; cases h

/-! ### function 27: loop.example/g01322/laws.toJobS -/
noncomputable def f_wtoJobS_c : Code := match Try.f27.body with | some c => c | none => .skip
noncomputable def f_wtoJobS_X : Ctx := ⟨TT, phiOf [(107, c_wtoJob)], noPsi, noXi⟩
def f_wtoJobS_LV : List (Nat × Keep) := [(3, ([0, 3, 4], [], []))]
def f_wtoJobS_rv : List ResultVar := [.tmp 2]
noncomputable def f_wtoJobS_L (r : List A) : Nat → AS → Option (List A) := L f_wtoJobS_X (cnOf f_wtoJobS_LV) f_wtoJobS_c (K0 TT f_wtoJobS_rv) r
theorem f_wtoJobS_ctx : CtxOK Try.prog f_wtoJobS_X := ctx_of tab mix ⟨⟨Try.call107, f_wtoJob_sound⟩, trivial⟩
noncomputable def f_wtoJobS_s3 (x0 : Int) (x1 : (List (Int × Int))) (x2 : (List (Int × Int))) : AS := ⟨[(0, .a (.sl 0)), (3, .a (.sl 1)), (4, .a (.v (.int .i64 x0)))], [(0, some ⟨false, .arr (.st [(.i .i8), (.i .u16)]) x1⟩), (1, some ⟨true, .arr (.st [(.i .i8), (.i .u16)]) x2⟩)], 2⟩
noncomputable def l_wtoJobS (r : (List (Int × Int))) : List A := [.lst (.st [(.i .i8), (.i .u16)]) r]
theorem f_wtoJobS_step3 (x0 : Int) (x1 : (List (Int × Int))) (x2 : (List (Int × Int))) (r : List A) (h : (cond (decide (x0 < ((List.length x1 : Nat) : Int))) (cond (inB x0 (List.length x1)) (cond (inB x0 (List.length x2)) (f_wtoJobS_L r 3 (f_wtoJobS_s3 (IntKind.wrap .i64 (x0 + 1)) x1 (List.set x2 (Int.toNat x0) ((s_wtoJob (List.getD x1 (Int.toNat x0) ((0, 0) : (Int × Int))).1 (List.getD x1 (Int.toNat x0) ((0, 0) : (Int × Int))).2).1, (s_wtoJob (List.getD x1 (Int.toNat x0) ((0, 0) : (Int × Int))).1 (List.getD x1 (Int.toNat x0) ((0, 0) : (Int × Int))).2).2)))) none) none) (some [.lst (.st [(.i .i8), (.i .u16)]) x2])) = some r) : f_wtoJobS_L r 3 (f_wtoJobS_s3 x0 x1 x2) = some r :=
  step_of' h (by kernel_rfl)
noncomputable def f_wtoJobS_n3 (x0 : Int) (x1 : (List (Int × Int))) (x2 : (List (Int × Int))) : Option ((Int × (List (Int × Int)) × (List (Int × Int))) ⊕ (List (Int × Int))) := (cond (decide (x0 < ((List.length x1 : Nat) : Int))) (cond (inB x0 (List.length x1)) (cond (inB x0 (List.length x2)) (some (Sum.inl ((IntKind.wrap .i64 (x0 + 1)), x1, (List.set x2 (Int.toNat x0) ((s_wtoJob (List.getD x1 (Int.toNat x0) ((0, 0) : (Int × Int))).1 (List.getD x1 (Int.toNat x0) ((0, 0) : (Int × Int))).2).1, (s_wtoJob (List.getD x1 (Int.toNat x0) ((0, 0) : (Int × Int))).1 (List.getD x1 (Int.toNat x0) ((0, 0) : (Int × Int))).2).2))))) none) none) (some (Sum.inr x2)))
noncomputable def f_wtoJobS_run3 (x : (Int × (List (Int × Int)) × (List (Int × Int)))) : Option (List (Int × Int)) := iter (fun x => f_wtoJobS_n3 x.1 x.2.1 x.2.2) FU x
noncomputable def f_wtoJobS_G3 (r : List A) (x : (Int × (List (Int × Int)) × (List (Int × Int)))) : Prop := f_wtoJobS_L r 3 (f_wtoJobS_s3 x.1 x.2.1 x.2.2) = some r
noncomputable def f_wtoJobS_S3 (r : List A) : (List (Int × Int)) → Prop := fun v => r = l_wtoJobS v
theorem f_wtoJobS_go3 (r : List A) : ∀ x, sem (f_wtoJobS_S3 r) (f_wtoJobS_run3 x) → f_wtoJobS_G3 r x :=
  fun x => iter_sound (step := fun x => f_wtoJobS_n3 x.1 x.2.1 x.2.2) (fun x h => by
    unfold f_wtoJobS_n3 at h
    exact f_wtoJobS_step3 x.1 x.2.1 x.2.2 r ((sem_cond h (fun h => (sem_cond h (fun h => (sem_cond h (fun h => sem_got h fun q => q) (fun h => sem_none h))) (fun h => sem_none h))) (fun h => sem_got h fun q => some_eq q)))) FU x
noncomputable def s_wtoJobS (a0 : (List (Int × Int))) : Option (List (Int × Int)) := (cond (decide (0 ≤ ((List.length a0 : Nat) : Int)) && decide (((List.length a0 : Nat) : Int) = ((List.length a0 : Nat) : Int)) && fits ((Int.toNat ((List.length a0 : Nat) : Int)) * 4)) (f_wtoJobS_run3 (0, a0, (List.replicate (Int.toNat ((List.length a0 : Nat) : Int)) ((0, 0) : (Int × Int))))) none)
theorem f_wtoJobS_top (a0 : (List (Int × Int))) (r : List A) : ev f_wtoJobS_X (lpc (cnOf f_wtoJobS_LV) (f_wtoJobS_L r)) f_wtoJobS_c (K0 TT f_wtoJobS_rv) (enter [.lst (.st [(.i .i8), (.i .u16)]) a0]) = (cond (decide (0 ≤ ((List.length a0 : Nat) : Int)) && decide (((List.length a0 : Nat) : Int) = ((List.length a0 : Nat) : Int)) && fits ((Int.toNat ((List.length a0 : Nat) : Int)) * 4)) (f_wtoJobS_L r 3 (f_wtoJobS_s3 0 a0 (List.replicate (Int.toNat ((List.length a0 : Nat) : Int)) ((0, 0) : (Int × Int))))) none) := by kernel_rfl
theorem s_wtoJobS_ok (a0 : (List (Int × Int))) (v : (List (Int × Int))) (h : s_wtoJobS a0 = some v) : (cond (decide (0 ≤ ((List.length a0 : Nat) : Int)) && decide (((List.length a0 : Nat) : Int) = ((List.length a0 : Nat) : Int)) && fits ((Int.toNat ((List.length a0 : Nat) : Int)) * 4)) (f_wtoJobS_L (l_wtoJobS v) 3 (f_wtoJobS_s3 0 a0 (List.replicate (Int.toNat ((List.length a0 : Nat) : Int)) ((0, 0) : (Int × Int))))) none) = some (l_wtoJobS v) := by
  unfold s_wtoJobS at h
  have go : ∀ r, sem (fun v => r = l_wtoJobS v) ((cond (decide (0 ≤ ((List.length a0 : Nat) : Int)) && decide (((List.length a0 : Nat) : Int) = ((List.length a0 : Nat) : Int)) && fits ((Int.toNat ((List.length a0 : Nat) : Int)) * 4)) (f_wtoJobS_run3 (0, a0, (List.replicate (Int.toNat ((List.length a0 : Nat) : Int)) ((0, 0) : (Int × Int))))) none)) → (cond (decide (0 ≤ ((List.length a0 : Nat) : Int)) && decide (((List.length a0 : Nat) : Int) = ((List.length a0 : Nat) : Int)) && fits ((Int.toNat ((List.length a0 : Nat) : Int)) * 4)) (f_wtoJobS_L r 3 (f_wtoJobS_s3 0 a0 (List.replicate (Int.toNat ((List.length a0 : Nat) : Int)) ((0, 0) : (Int × Int))))) none) = some r := fun r h => (sem_cond h (fun h => f_wtoJobS_go3 r _ h) (fun h => sem_none h))
  exact go (l_wtoJobS v) ⟨v, h, rfl⟩
noncomputable def c_wtoJobS : List A → ACall
  | [.lst (.st [(.i .i8), (.i .u16)]) a0] => ⟨(List (Int × Int)), s_wtoJobS a0, fun r => .one (.lst (.st [(.i .i8), (.i .u16)]) r)⟩
  | _ => ACall.fail
theorem f_wtoJobS_sound : Sound Try.prog 27 c_wtoJobS := by
  refine sound_good f_wtoJobS_ctx f_wtoJobS_LV 1 Try.func27 (c := f_wtoJobS_c) (by kernel_rfl) (rv := f_wtoJobS_rv) (by kernel_rfl) (by kernel_rfl) (by kernel_rfl) (by kernel_rfl) fun rs => ?_
  unfold c_wtoJobS
  split
  · rename_i a0; intro v h; exact ⟨rfl, l_wtoJobS v, rfl, (f_wtoJobS_top a0 _).trans (s_wtoJobS_ok a0 v h)⟩
  · intro v h; cases h

/-! ### function 110: loop.example/g01322/laws.eqJob -/
noncomputable def f_weqJob_c : Code := match Try.f110.body with | some c => c | none => .skip
noncomputable def f_weqJob_X : Ctx := ⟨TT, phiOf [], noPsi, noXi⟩
def f_weqJob_LV : List (Nat × Keep) := []
def f_weqJob_rv : List ResultVar := [.tmp 4]
noncomputable def f_weqJob_L (r : List A) : Nat → AS → Option (List A) := L f_weqJob_X (cnOf f_weqJob_LV) f_weqJob_c (K0 TT f_weqJob_rv) r
theorem f_weqJob_ctx : CtxOK Try.prog f_weqJob_X := ctx_of tab mix trivial
noncomputable def s_weqJob (a0 : Int) (a1 : Int) (a2 : Int) (a3 : Int) : Bool := (cond (a0 != a2) false (cond (a1 != a3) false true))
theorem f_weqJob_top (a0 : Int) (a1 : Int) (a2 : Int) (a3 : Int) (r : List A) : ev f_weqJob_X (lpc (cnOf f_weqJob_LV) (f_weqJob_L r)) f_weqJob_c (K0 TT f_weqJob_rv) (enter [.rc [.v (.int .i8 a0), .v (.int .u16 a1)], .rc [.v (.int .i8 a2), .v (.int .u16 a3)]]) = (cond (a0 != a2) (some [.v (.bool false)]) (cond (a1 != a3) (some [.v (.bool false)]) (some [.v (.bool true)]))) := by kernel_rfl
noncomputable def l_weqJob (r : Bool) : List A := [.v (.bool r)]
theorem s_weqJob_ok (a0 : Int) (a1 : Int) (a2 : Int) (a3 : Int) : (cond (a0 != a2) (some [.v (.bool false)]) (cond (a1 != a3) (some [.v (.bool false)]) (some [.v (.bool true)]))) = some (l_weqJob (s_weqJob a0 a1 a2 a3)) := by
  unfold s_weqJob
  exact (cond_app (fun x => some (l_weqJob x)) rfl (cond_app (fun x => some (l_weqJob x)) rfl rfl))
noncomputable def c_weqJob : List A → ACall
  | [.rc [.v (.int .i8 a0), .v (.int .u16 a1)], .rc [.v (.int .i8 a2), .v (.int .u16 a3)]] => ⟨Bool, some (s_weqJob a0 a1 a2 a3), fun r => .one (.v (.bool r))⟩
  | _ => ACall.fail
theorem f_weqJob_sound : Sound Try.prog 110 c_weqJob := by
  refine sound_good f_weqJob_ctx f_weqJob_LV 2 Try.func110 (c := f_weqJob_c) (by kernel_rfl) (rv := f_weqJob_rv) (by kernel_rfl) (by kernel_rfl) (by kernel_rfl) (by kernel_rfl) fun rs => ?_
  unfold c_weqJob
  split
  · rename_i a0 a1 a2 a3; intro v h; cases h; exact ⟨rfl, l_weqJob (s_weqJob a0 a1 a2 a3), rfl, (f_weqJob_top a0 a1 a2 a3 _).trans (s_weqJob_ok a0 a1 a2 a3)⟩
  · intro v h; cases h

/-! ### function 29: loop.example/g01322/laws.eqJobS -/
noncomputable def f_weqJobS_c : Code := match Try.f29.body with | some c => c | none => .skip
noncomputable def f_weqJobS_X : Ctx := ⟨TT, phiOf [(110, c_weqJob)], noPsi, noXi⟩
def f_weqJobS_LV : List (Nat × Keep) := [(4, ([0, 1, 5], [], []))]
def f_weqJobS_rv : List ResultVar := [.tmp 4]
noncomputable def f_weqJobS_L (r : List A) : Nat → AS → Option (List A) := L f_weqJobS_X (cnOf f_weqJobS_LV) f_weqJobS_c (K0 TT f_weqJobS_rv) r
theorem f_weqJobS_ctx : CtxOK Try.prog f_weqJobS_X := ctx_of tab mix ⟨⟨Try.call110, f_weqJob_sound⟩, trivial⟩
noncomputable def f_weqJobS_s4 (x0 : Int) (x1 : (List (Int × Int))) (x2 : (List (Int × Int))) : AS := ⟨[(0, .a (.sl 0)), (1, .a (.sl 1)), (5, .a (.v (.int .i64 x0)))], [(0, some ⟨false, .arr (.st [(.i .i8), (.i .u16)]) x1⟩), (1, some ⟨false, .arr (.st [(.i .i8), (.i .u16)]) x2⟩)], 2⟩
noncomputable def l_weqJobS (r : Bool) : List A := [.v (.bool r)]
theorem f_weqJobS_step4 (x0 : Int) (x1 : (List (Int × Int))) (x2 : (List (Int × Int))) (r : List A) (h : (cond (decide (x0 < ((List.length x1 : Nat) : Int))) (cond (inB x0 (List.length x1)) (cond (inB x0 (List.length x2)) (cond (!(s_weqJob (List.getD x1 (Int.toNat x0) ((0, 0) : (Int × Int))).1 (List.getD x1 (Int.toNat x0) ((0, 0) : (Int × Int))).2 (List.getD x2 (Int.toNat x0) ((0, 0) : (Int × Int))).1 (List.getD x2 (Int.toNat x0) ((0, 0) : (Int × Int))).2)) (some [.v (.bool false)]) (f_weqJobS_L r 4 (f_weqJobS_s4 (IntKind.wrap .i64 (x0 + 1)) x1 x2))) none) none) (some [.v (.bool true)])) = some r) : f_weqJobS_L r 4 (f_weqJobS_s4 x0 x1 x2) = some r :=
  step_of' h (by kernel_rfl)
noncomputable def f_weqJobS_n4 (x0 : Int) (x1 : (List (Int × Int))) (x2 : (List (Int × Int))) : Option ((Int × (List (Int × Int)) × (List (Int × Int))) ⊕ Bool) := (cond (decide (x0 < ((List.length x1 : Nat) : Int))) (cond (inB x0 (List.length x1)) (cond (inB x0 (List.length x2)) (cond (!(s_weqJob (List.getD x1 (Int.toNat x0) ((0, 0) : (Int × Int))).1 (List.getD x1 (Int.toNat x0) ((0, 0) : (Int × Int))).2 (List.getD x2 (Int.toNat x0) ((0, 0) : (Int × Int))).1 (List.getD x2 (Int.toNat x0) ((0, 0) : (Int × Int))).2)) (some (Sum.inr false)) (some (Sum.inl ((IntKind.wrap .i64 (x0 + 1)), x1, x2)))) none) none) (some (Sum.inr true)))
noncomputable def f_weqJobS_run4 (x : (Int × (List (Int × Int)) × (List (Int × Int)))) : Option Bool := iter (fun x => f_weqJobS_n4 x.1 x.2.1 x.2.2) FU x
noncomputable def f_weqJobS_G4 (r : List A) (x : (Int × (List (Int × Int)) × (List (Int × Int)))) : Prop := f_weqJobS_L r 4 (f_weqJobS_s4 x.1 x.2.1 x.2.2) = some r
noncomputable def f_weqJobS_S4 (r : List A) : Bool → Prop := fun v => r = l_weqJobS v
theorem f_weqJobS_go4 (r : List A) : ∀ x, sem (f_weqJobS_S4 r) (f_weqJobS_run4 x) → f_weqJobS_G4 r x :=
  fun x => iter_sound (step := fun x => f_weqJobS_n4 x.1 x.2.1 x.2.2) (fun x h => by
    unfold f_weqJobS_n4 at h
    exact f_weqJobS_step4 x.1 x.2.1 x.2.2 r ((sem_cond h (fun h => (sem_cond h (fun h => (sem_cond h (fun h => (sem_cond h (fun h => sem_got h fun q => some_eq q) (fun h => sem_got h fun q => q))) (fun h => sem_none h))) (fun h => sem_none h))) (fun h => sem_got h fun q => some_eq q)))) FU x
noncomputable def s_weqJobS (a0 : (List (Int × Int))) (a1 : (List (Int × Int))) : Option Bool := (cond (((List.length a0 : Nat) : Int) != ((List.length a1 : Nat) : Int)) (some false) (f_weqJobS_run4 (0, a0, a1)))
theorem f_weqJobS_top (a0 : (List (Int × Int))) (a1 : (List (Int × Int))) (r : List A) : ev f_weqJobS_X (lpc (cnOf f_weqJobS_LV) (f_weqJobS_L r)) f_weqJobS_c (K0 TT f_weqJobS_rv) (enter [.lst (.st [(.i .i8), (.i .u16)]) a0, .lst (.st [(.i .i8), (.i .u16)]) a1]) = (cond (((List.length a0 : Nat) : Int) != ((List.length a1 : Nat) : Int)) (some [.v (.bool false)]) (f_weqJobS_L r 4 (f_weqJobS_s4 0 a0 a1))) := by kernel_rfl
theorem s_weqJobS_ok (a0 : (List (Int × Int))) (a1 : (List (Int × Int))) (v : Bool) (h : s_weqJobS a0 a1 = some v) : (cond (((List.length a0 : Nat) : Int) != ((List.length a1 : Nat) : Int)) (some [.v (.bool false)]) (f_weqJobS_L (l_weqJobS v) 4 (f_weqJobS_s4 0 a0 a1))) = some (l_weqJobS v) := by
  unfold s_weqJobS at h
  have go : ∀ r, sem (fun v => r = l_weqJobS v) ((cond (((List.length a0 : Nat) : Int) != ((List.length a1 : Nat) : Int)) (some false) (f_weqJobS_run4 (0, a0, a1)))) → (cond (((List.length a0 : Nat) : Int) != ((List.length a1 : Nat) : Int)) (some [.v (.bool false)]) (f_weqJobS_L r 4 (f_weqJobS_s4 0 a0 a1))) = some r := fun r h => (sem_cond h (fun h => sem_got h fun q => some_eq q) (fun h => f_weqJobS_go4 r _ h))
  exact go (l_weqJobS v) ⟨v, h, rfl⟩
noncomputable def c_weqJobS : List A → ACall
  | [.lst (.st [(.i .i8), (.i .u16)]) a0, .lst (.st [(.i .i8), (.i .u16)]) a1] => ⟨Bool, s_weqJobS a0 a1, fun r => .one (.v (.bool r))⟩
  | _ => ACall.fail
theorem f_weqJobS_sound : Sound Try.prog 29 c_weqJobS := by
  refine sound_good f_weqJobS_ctx f_weqJobS_LV 2 Try.func29 (c := f_weqJobS_c) (by kernel_rfl) (rv := f_weqJobS_rv) (by kernel_rfl) (by kernel_rfl) (by kernel_rfl) (by kernel_rfl) fun rs => ?_
  unfold c_weqJobS
  split
  · rename_i a0 a1; intro v h; exact ⟨rfl, l_weqJobS v, rfl, (f_weqJobS_top a0 a1 _).trans (s_weqJobS_ok a0 a1 v h)⟩
  · intro v h; cases h

/-! ### function 163: loop.example/g01322/spec.l07Order -/
noncomputable def f_sl07Order_c : Code := match Try.f163.body with | some c => c | none => .skip
noncomputable def f_sl07Order_X : Ctx := ⟨TT, phiOf [], noPsi, noXi⟩
def f_sl07Order_LV : List (Nat × Keep) := [(3, ([0, 4, 5], [], [])), (6, ([0, 4, 5, 6, 7], [], []))]
def f_sl07Order_rv : List ResultVar := [.tmp 2, .tmp 3]
noncomputable def f_sl07Order_L (r : List A) : Nat → AS → Option (List A) := L f_sl07Order_X (cnOf f_sl07Order_LV) f_sl07Order_c (K0 TT f_sl07Order_rv) r
theorem f_sl07Order_ctx : CtxOK Try.prog f_sl07Order_X := ctx_of tab mix trivial
noncomputable def f_sl07Order_s3 (x0 : Int) (x1 : (List (Int × Int))) (x2 : (List Int)) : AS := ⟨[(0, .a (.sl 0)), (4, .a (.sl 1)), (5, .a (.v (.int .u16 x0)))], [(0, some ⟨false, .arr (.st [(.i .i8), (.i .u16)]) x1⟩), (1, some ⟨true, .arr (.one (.i .i64)) x2⟩)], 2⟩
noncomputable def f_sl07Order_s6 (x0 : Int) (x1 : Int) (x2 : Int) (x3 : (List (Int × Int))) (x4 : (List Int)) : AS := ⟨[(0, .a (.sl 0)), (4, .a (.sl 1)), (5, .a (.v (.int .u16 x0))), (6, .a (.v (.int .i64 x1))), (7, .a (.v (.int .i64 x2)))], [(0, some ⟨false, .arr (.st [(.i .i8), (.i .u16)]) x3⟩), (1, some ⟨true, .arr (.one (.i .i64)) x4⟩)], 2⟩
noncomputable def l_sl07Order (r : ((List Int) × Bool)) : List A := [.lst (.one (.i .i64)) r.1, .v (.bool r.2)]
theorem f_sl07Order_step6 (x0 : Int) (x1 : Int) (x2 : Int) (x3 : (List (Int × Int))) (x4 : (List Int)) (r : List A) (h : (cond (decide (x2 ≥ 0)) (cond (decide ((IntKind.wrap .u64 x2) < 0)) none (cond ((Int.tmod (bShr .u16 x0 (IntKind.wrap .u64 x2)) 2) == 0) (cond (inB x2 (List.length x3)) (cond ((bAndNot .u16 (List.getD x3 (Int.toNat x2) ((0, 0) : (Int × Int))).2 x0) == 0) (f_sl07Order_L r 6 (f_sl07Order_s6 x0 x2 (IntKind.wrap .i64 (x2 - 1)) x3 x4)) (f_sl07Order_L r 6 (f_sl07Order_s6 x0 x1 (IntKind.wrap .i64 (x2 - 1)) x3 x4))) none) (f_sl07Order_L r 6 (f_sl07Order_s6 x0 x1 (IntKind.wrap .i64 (x2 - 1)) x3 x4)))) (cond (decide (x1 < 0)) (some [.lst (.one (.i .i64)) [], .v (.bool false)]) (cond (fits ((List.length (x4 : List Int) + List.length ([x1] : List Int)) * 8)) (cond (decide ((IntKind.wrap .u64 x1) < 0)) none (f_sl07Order_L r 3 (f_sl07Order_s3 (bOr .u16 x0 (bShl .u16 1 (IntKind.wrap .u64 x1))) x3 (x4 ++ [x1])))) none))) = some r) : f_sl07Order_L r 6 (f_sl07Order_s6 x0 x1 x2 x3 x4) = some r :=
  step_of' h (by kernel_rfl)
noncomputable def f_sl07Order_n6 (x0 : Int) (x1 : Int) (x2 : Int) (x3 : (List (Int × Int))) (x4 : (List Int)) : Option ((Int × Int × Int × (List (Int × Int)) × (List Int)) ⊕ ((Int × (List (Int × Int)) × (List Int)) ⊕ ((List Int) × Bool))) := (cond (decide (x2 ≥ 0)) (cond (decide ((IntKind.wrap .u64 x2) < 0)) none (cond ((Int.tmod (bShr .u16 x0 (IntKind.wrap .u64 x2)) 2) == 0) (cond (inB x2 (List.length x3)) (cond ((bAndNot .u16 (List.getD x3 (Int.toNat x2) ((0, 0) : (Int × Int))).2 x0) == 0) (some (Sum.inl (x0, x2, (IntKind.wrap .i64 (x2 - 1)), x3, x4))) (some (Sum.inl (x0, x1, (IntKind.wrap .i64 (x2 - 1)), x3, x4)))) none) (some (Sum.inl (x0, x1, (IntKind.wrap .i64 (x2 - 1)), x3, x4))))) (cond (decide (x1 < 0)) (some (Sum.inr (Sum.inr ([], false)))) (cond (fits ((List.length (x4 : List Int) + List.length ([x1] : List Int)) * 8)) (cond (decide ((IntKind.wrap .u64 x1) < 0)) none (some (Sum.inr (Sum.inl ((bOr .u16 x0 (bShl .u16 1 (IntKind.wrap .u64 x1))), x3, (x4 ++ [x1])))))) none)))
noncomputable def f_sl07Order_run6 (x : (Int × Int × Int × (List (Int × Int)) × (List Int))) : Option ((Int × (List (Int × Int)) × (List Int)) ⊕ ((List Int) × Bool)) := iter (fun x => f_sl07Order_n6 x.1 x.2.1 x.2.2.1 x.2.2.2.1 x.2.2.2.2) FU x
noncomputable def f_sl07Order_G6 (r : List A) (x : (Int × Int × Int × (List (Int × Int)) × (List Int))) : Prop := f_sl07Order_L r 6 (f_sl07Order_s6 x.1 x.2.1 x.2.2.1 x.2.2.2.1 x.2.2.2.2) = some r
theorem f_sl07Order_step3 (x0 : Int) (x1 : (List (Int × Int))) (x2 : (List Int)) (r : List A) (h : (cond (decide (((List.length x2 : Nat) : Int) < ((List.length x1 : Nat) : Int))) (f_sl07Order_L r 6 (f_sl07Order_s6 x0 (-1) (IntKind.wrap .i64 (((List.length x1 : Nat) : Int) - 1)) x1 x2)) (some [.lst (.one (.i .i64)) x2, .v (.bool true)])) = some r) : f_sl07Order_L r 3 (f_sl07Order_s3 x0 x1 x2) = some r :=
  step_of' h (by kernel_rfl)
noncomputable def f_sl07Order_n3 (x0 : Int) (x1 : (List (Int × Int))) (x2 : (List Int)) : Option ((Int × (List (Int × Int)) × (List Int)) ⊕ ((List Int) × Bool)) := (cond (decide (((List.length x2 : Nat) : Int) < ((List.length x1 : Nat) : Int))) (f_sl07Order_run6 (x0, (-1), (IntKind.wrap .i64 (((List.length x1 : Nat) : Int) - 1)), x1, x2)) (some (Sum.inr (x2, true))))
noncomputable def f_sl07Order_run3 (x : (Int × (List (Int × Int)) × (List Int))) : Option ((List Int) × Bool) := iter (fun x => f_sl07Order_n3 x.1 x.2.1 x.2.2) FU x
noncomputable def f_sl07Order_G3 (r : List A) (x : (Int × (List (Int × Int)) × (List Int))) : Prop := f_sl07Order_L r 3 (f_sl07Order_s3 x.1 x.2.1 x.2.2) = some r
noncomputable def f_sl07Order_S3 (r : List A) : ((List Int) × Bool) → Prop := fun v => r = l_sl07Order v
noncomputable def f_sl07Order_S6 (r : List A) : ((Int × (List (Int × Int)) × (List Int)) ⊕ ((List Int) × Bool)) → Prop := goesOn (f_sl07Order_G3 r) (f_sl07Order_S3 r)
theorem f_sl07Order_go6 (r : List A) : ∀ x, sem (f_sl07Order_S6 r) (f_sl07Order_run6 x) → f_sl07Order_G6 r x :=
  fun x => iter_sound (step := fun x => f_sl07Order_n6 x.1 x.2.1 x.2.2.1 x.2.2.2.1 x.2.2.2.2) (fun x h => by
    unfold f_sl07Order_n6 at h
    exact f_sl07Order_step6 x.1 x.2.1 x.2.2.1 x.2.2.2.1 x.2.2.2.2 r ((sem_cond h (fun h => (sem_cond h (fun h => sem_none h) (fun h => (sem_cond h (fun h => (sem_cond h (fun h => (sem_cond h (fun h => sem_got h fun q => q) (fun h => sem_got h fun q => q))) (fun h => sem_none h))) (fun h => sem_got h fun q => q))))) (fun h => (sem_cond h (fun h => sem_got h fun q => some_eq q) (fun h => (sem_cond h (fun h => (sem_cond h (fun h => sem_none h) (fun h => sem_got h fun q => q))) (fun h => sem_none h)))))))) FU x
theorem f_sl07Order_go3 (r : List A) : ∀ x, sem (f_sl07Order_S3 r) (f_sl07Order_run3 x) → f_sl07Order_G3 r x :=
  fun x => iter_sound (step := fun x => f_sl07Order_n3 x.1 x.2.1 x.2.2) (fun x h => by
    unfold f_sl07Order_n3 at h
    exact f_sl07Order_step3 x.1 x.2.1 x.2.2 r ((sem_cond h (fun h => f_sl07Order_go6 r _ h) (fun h => sem_got h fun q => some_eq q)))) FU x
noncomputable def s_sl07Order (a0 : (List (Int × Int))) : Option ((List Int) × Bool) := (f_sl07Order_run3 (0, a0, []))
theorem f_sl07Order_top (a0 : (List (Int × Int))) (r : List A) : ev f_sl07Order_X (lpc (cnOf f_sl07Order_LV) (f_sl07Order_L r)) f_sl07Order_c (K0 TT f_sl07Order_rv) (enter [.lst (.st [(.i .i8), (.i .u16)]) a0]) = (f_sl07Order_L r 3 (f_sl07Order_s3 0 a0 [])) := by kernel_rfl
theorem s_sl07Order_ok (a0 : (List (Int × Int))) (v : ((List Int) × Bool)) (h : s_sl07Order a0 = some v) : (f_sl07Order_L (l_sl07Order v) 3 (f_sl07Order_s3 0 a0 [])) = some (l_sl07Order v) := by
  unfold s_sl07Order at h
  have go : ∀ r, sem (fun v => r = l_sl07Order v) ((f_sl07Order_run3 (0, a0, []))) → (f_sl07Order_L r 3 (f_sl07Order_s3 0 a0 [])) = some r := fun r h => f_sl07Order_go3 r _ h
  exact go (l_sl07Order v) ⟨v, h, rfl⟩
noncomputable def c_sl07Order : List A → ACall
  | [.lst (.st [(.i .i8), (.i .u16)]) a0] => ⟨((List Int) × Bool), s_sl07Order a0, fun r => .tup [.lst (.one (.i .i64)) r.1, .v (.bool r.2)]⟩
  | _ => ACall.fail
theorem f_sl07Order_sound : Sound Try.prog 163 c_sl07Order := by
  refine sound_good f_sl07Order_ctx f_sl07Order_LV 1 Try.func163 (c := f_sl07Order_c) (by kernel_rfl) (rv := f_sl07Order_rv) (by kernel_rfl) (by kernel_rfl) (by kernel_rfl) (by kernel_rfl) fun rs => ?_
  unfold c_sl07Order
  split
  · rename_i a0; intro v h; exact ⟨rfl, l_sl07Order v, rfl, (f_sl07Order_top a0 _).trans (s_sl07Order_ok a0 v h)⟩
  · intro v h; cases h

/-! ### function 105: loop.example/g01322/spec.l07Ok -/
noncomputable def f_sl07Ok_c : Code := match Try.f105.body with | some c => c | none => .skip
noncomputable def f_sl07Ok_X : Ctx := ⟨TT, phiOf [(163, c_sl07Order), (93, c_sl00In)], noPsi, noXi⟩
def f_sl07Ok_LV : List (Nat × Keep) := [(4, ([0, 3], [], []))]
def f_sl07Ok_rv : List ResultVar := [.tmp 2]
noncomputable def f_sl07Ok_L (r : List A) : Nat → AS → Option (List A) := L f_sl07Ok_X (cnOf f_sl07Ok_LV) f_sl07Ok_c (K0 TT f_sl07Ok_rv) r
theorem f_sl07Ok_ctx : CtxOK Try.prog f_sl07Ok_X := ctx_of tab mix ⟨⟨Try.call163, f_sl07Order_sound⟩, ⟨Try.call93, f_sl00In_sound⟩, trivial⟩
noncomputable def f_sl07Ok_s4 (x0 : Int) (x1 : (List (Int × Int))) : AS := ⟨[(0, .a (.sl 0)), (3, .a (.v (.int .i64 x0)))], [(0, some ⟨false, .arr (.st [(.i .i8), (.i .u16)]) x1⟩)], 1⟩
noncomputable def l_sl07Ok (r : Bool) : List A := [.v (.bool r)]
theorem f_sl07Ok_step4 (x0 : Int) (x1 : (List (Int × Int))) (r : List A) (h : (cond (decide (x0 < ((List.length x1 : Nat) : Int))) (cond (inB x0 (List.length x1)) (cond (!(s_sl00In (IntKind.wrap .i64 (List.getD x1 (Int.toNat x0) ((0, 0) : (Int × Int))).1) 1 30)) (some [.v (.bool false)]) (cond (inB x0 (List.length x1)) (cond (decide ((IntKind.wrap .u64 ((List.length x1 : Nat) : Int)) < 0)) none (cond ((bShr .u16 (List.getD x1 (Int.toNat x0) ((0, 0) : (Int × Int))).2 (IntKind.wrap .u64 ((List.length x1 : Nat) : Int))) != 0) (some [.v (.bool false)]) (f_sl07Ok_L r 4 (f_sl07Ok_s4 (IntKind.wrap .i64 (x0 + 1)) x1)))) none)) none) (Option.bind (s_sl07Order x1) fun r1 => (some [.v (.bool r1.2)]))) = some r) : f_sl07Ok_L r 4 (f_sl07Ok_s4 x0 x1) = some r :=
  step_of' h (by kernel_rfl)
noncomputable def f_sl07Ok_n4 (x0 : Int) (x1 : (List (Int × Int))) : Option ((Int × (List (Int × Int))) ⊕ Bool) := (cond (decide (x0 < ((List.length x1 : Nat) : Int))) (cond (inB x0 (List.length x1)) (cond (!(s_sl00In (IntKind.wrap .i64 (List.getD x1 (Int.toNat x0) ((0, 0) : (Int × Int))).1) 1 30)) (some (Sum.inr false)) (cond (inB x0 (List.length x1)) (cond (decide ((IntKind.wrap .u64 ((List.length x1 : Nat) : Int)) < 0)) none (cond ((bShr .u16 (List.getD x1 (Int.toNat x0) ((0, 0) : (Int × Int))).2 (IntKind.wrap .u64 ((List.length x1 : Nat) : Int))) != 0) (some (Sum.inr false)) (some (Sum.inl ((IntKind.wrap .i64 (x0 + 1)), x1))))) none)) none) (Option.bind (s_sl07Order x1) fun r1 => (some (Sum.inr (r1.2)))))
noncomputable def f_sl07Ok_run4 (x : (Int × (List (Int × Int)))) : Option Bool := iter (fun x => f_sl07Ok_n4 x.1 x.2) FU x
noncomputable def f_sl07Ok_G4 (r : List A) (x : (Int × (List (Int × Int)))) : Prop := f_sl07Ok_L r 4 (f_sl07Ok_s4 x.1 x.2) = some r
noncomputable def f_sl07Ok_S4 (r : List A) : Bool → Prop := fun v => r = l_sl07Ok v
theorem f_sl07Ok_go4 (r : List A) : ∀ x, sem (f_sl07Ok_S4 r) (f_sl07Ok_run4 x) → f_sl07Ok_G4 r x :=
  fun x => iter_sound (step := fun x => f_sl07Ok_n4 x.1 x.2) (fun x h => by
    unfold f_sl07Ok_n4 at h
    exact f_sl07Ok_step4 x.1 x.2 r ((sem_cond h (fun h => (sem_cond h (fun h => (sem_cond h (fun h => sem_got h fun q => some_eq q) (fun h => (sem_cond h (fun h => (sem_cond h (fun h => sem_none h) (fun h => (sem_cond h (fun h => sem_got h fun q => some_eq q) (fun h => sem_got h fun q => q))))) (fun h => sem_none h))))) (fun h => sem_none h))) (fun h => (sem_bind h fun r1 h => sem_got h fun q => some_eq q))))) FU x
noncomputable def s_sl07Ok (a0 : (List (Int × Int))) : Option Bool := (cond (decide (((List.length a0 : Nat) : Int) > 12)) (some false) (f_sl07Ok_run4 (0, a0)))
theorem f_sl07Ok_top (a0 : (List (Int × Int))) (r : List A) : ev f_sl07Ok_X (lpc (cnOf f_sl07Ok_LV) (f_sl07Ok_L r)) f_sl07Ok_c (K0 TT f_sl07Ok_rv) (enter [.lst (.st [(.i .i8), (.i .u16)]) a0]) = (cond (decide (((List.length a0 : Nat) : Int) > 12)) (some [.v (.bool false)]) (f_sl07Ok_L r 4 (f_sl07Ok_s4 0 a0))) := by kernel_rfl
theorem s_sl07Ok_ok (a0 : (List (Int × Int))) (v : Bool) (h : s_sl07Ok a0 = some v) : (cond (decide (((List.length a0 : Nat) : Int) > 12)) (some [.v (.bool false)]) (f_sl07Ok_L (l_sl07Ok v) 4 (f_sl07Ok_s4 0 a0))) = some (l_sl07Ok v) := by
  unfold s_sl07Ok at h
  have go : ∀ r, sem (fun v => r = l_sl07Ok v) ((cond (decide (((List.length a0 : Nat) : Int) > 12)) (some false) (f_sl07Ok_run4 (0, a0)))) → (cond (decide (((List.length a0 : Nat) : Int) > 12)) (some [.v (.bool false)]) (f_sl07Ok_L r 4 (f_sl07Ok_s4 0 a0))) = some r := fun r h => (sem_cond h (fun h => sem_got h fun q => some_eq q) (fun h => f_sl07Ok_go4 r _ h))
  exact go (l_sl07Ok v) ⟨v, h, rfl⟩
noncomputable def c_sl07Ok : List A → ACall
  | [.lst (.st [(.i .i8), (.i .u16)]) a0] => ⟨Bool, s_sl07Ok a0, fun r => .one (.v (.bool r))⟩
  | _ => ACall.fail
theorem f_sl07Ok_sound : Sound Try.prog 105 c_sl07Ok := by
  refine sound_good f_sl07Ok_ctx f_sl07Ok_LV 1 Try.func105 (c := f_sl07Ok_c) (by kernel_rfl) (rv := f_sl07Ok_rv) (by kernel_rfl) (by kernel_rfl) (by kernel_rfl) (by kernel_rfl) fun rs => ?_
  unfold c_sl07Ok
  split
  · rename_i a0; intro v h; exact ⟨rfl, l_sl07Ok v, rfl, (f_sl07Ok_top a0 _).trans (s_sl07Ok_ok a0 v h)⟩
  · intro v h; cases h

/-! ### function 199: loop.example/g01322/impl.indices -/
noncomputable def f_iindices_c : Code := match Try.f199.body with | some c => c | none => .skip
noncomputable def f_iindices_X : Ctx := ⟨TT, phiOf [], noPsi, noXi⟩
def f_iindices_LV : List (Nat × Keep) := [(3, ([3, 7, 8], [], []))]
def f_iindices_rv : List ResultVar := [.tmp 2]
noncomputable def f_iindices_L (r : List A) : Nat → AS → Option (List A) := L f_iindices_X (cnOf f_iindices_LV) f_iindices_c (K0 TT f_iindices_rv) r
theorem f_iindices_ctx : CtxOK Try.prog f_iindices_X := ctx_of tab mix trivial
noncomputable def f_iindices_s3 (x0 : Int) (x1 : Int) (x2 : (List Int)) : AS := ⟨[(3, .a (.sl 0)), (7, .a (.v (.int .i64 x0))), (8, .a (.v (.int .i64 x1)))], [(0, some ⟨true, .arr (.one (.i .i64)) x2⟩)], 1⟩
noncomputable def l_iindices (r : (List Int)) : List A := [.lst (.one (.i .i64)) r]
theorem f_iindices_step3 (x0 : Int) (x1 : Int) (x2 : (List Int)) (r : List A) (h : (cond (decide (x1 < x0)) (cond (fits ((List.length (x2 : List Int) + List.length ([x1] : List Int)) * 8)) (f_iindices_L r 3 (f_iindices_s3 x0 (IntKind.wrap .i64 (x1 + 1)) (x2 ++ [x1]))) none) (some [.lst (.one (.i .i64)) x2])) = some r) : f_iindices_L r 3 (f_iindices_s3 x0 x1 x2) = some r :=
  step_of' h (by kernel_rfl)
noncomputable def f_iindices_n3 (x0 : Int) (x1 : Int) (x2 : (List Int)) : Option ((Int × Int × (List Int)) ⊕ (List Int)) := (cond (decide (x1 < x0)) (cond (fits ((List.length (x2 : List Int) + List.length ([x1] : List Int)) * 8)) (some (Sum.inl (x0, (IntKind.wrap .i64 (x1 + 1)), (x2 ++ [x1])))) none) (some (Sum.inr x2)))
noncomputable def f_iindices_run3 (x : (Int × Int × (List Int))) : Option (List Int) := iter (fun x => f_iindices_n3 x.1 x.2.1 x.2.2) FU x
noncomputable def f_iindices_G3 (r : List A) (x : (Int × Int × (List Int))) : Prop := f_iindices_L r 3 (f_iindices_s3 x.1 x.2.1 x.2.2) = some r
noncomputable def f_iindices_S3 (r : List A) : (List Int) → Prop := fun v => r = l_iindices v
theorem f_iindices_go3 (r : List A) : ∀ x, sem (f_iindices_S3 r) (f_iindices_run3 x) → f_iindices_G3 r x :=
  fun x => iter_sound (step := fun x => f_iindices_n3 x.1 x.2.1 x.2.2) (fun x h => by
    unfold f_iindices_n3 at h
    exact f_iindices_step3 x.1 x.2.1 x.2.2 r ((sem_cond h (fun h => (sem_cond h (fun h => sem_got h fun q => q) (fun h => sem_none h))) (fun h => sem_got h fun q => some_eq q)))) FU x
noncomputable def s_iindices (a0 : (List (Int × Int))) : Option (List Int) := (f_iindices_run3 (((List.length a0 : Nat) : Int), 0, []))
theorem f_iindices_top (a0 : (List (Int × Int))) (r : List A) : ev f_iindices_X (lpc (cnOf f_iindices_LV) (f_iindices_L r)) f_iindices_c (K0 TT f_iindices_rv) (enter [.lst (.st [(.i .i8), (.i .u16)]) a0]) = (f_iindices_L r 3 (f_iindices_s3 ((List.length a0 : Nat) : Int) 0 [])) := by kernel_rfl
theorem s_iindices_ok (a0 : (List (Int × Int))) (v : (List Int)) (h : s_iindices a0 = some v) : (f_iindices_L (l_iindices v) 3 (f_iindices_s3 ((List.length a0 : Nat) : Int) 0 [])) = some (l_iindices v) := by
  unfold s_iindices at h
  have go : ∀ r, sem (fun v => r = l_iindices v) ((f_iindices_run3 (((List.length a0 : Nat) : Int), 0, []))) → (f_iindices_L r 3 (f_iindices_s3 ((List.length a0 : Nat) : Int) 0 [])) = some r := fun r h => f_iindices_go3 r _ h
  exact go (l_iindices v) ⟨v, h, rfl⟩
noncomputable def c_iindices : List A → ACall
  | [.lst (.st [(.i .i8), (.i .u16)]) a0] => ⟨(List Int), s_iindices a0, fun r => .one (.lst (.one (.i .i64)) r)⟩
  | _ => ACall.fail
theorem f_iindices_sound : Sound Try.prog 199 c_iindices := by
  refine sound_good f_iindices_ctx f_iindices_LV 1 Try.func199 (c := f_iindices_c) (by kernel_rfl) (rv := f_iindices_rv) (by kernel_rfl) (by kernel_rfl) (by kernel_rfl) (by kernel_rfl) fun rs => ?_
  unfold c_iindices
  split
  · rename_i a0; intro v h; exact ⟨rfl, l_iindices v, rfl, (f_iindices_top a0 _).trans (s_iindices_ok a0 v h)⟩
  · intro v h; cases h

/-! ### function 205: loop.example/g01322/impl.order$1 -/
noncomputable def f_iorder_1_c : Code := match Try.f205.body with | some c => c | none => .skip
noncomputable def f_iorder_1_X : Ctx := ⟨TT, phiOf [], noPsi, noXi⟩
def f_iorder_1_LV : List (Nat × Keep) := []
def f_iorder_1_rv : List ResultVar := [.tmp 4]
noncomputable def f_iorder_1_L (r : List A) : Nat → AS → Option (List A) := L f_iorder_1_X (cnOf f_iorder_1_LV) f_iorder_1_c (K0 TT f_iorder_1_rv) r
theorem f_iorder_1_ctx : CtxOK Try.prog f_iorder_1_X := ctx_of tab mix trivial
noncomputable def s_iorder_1 (a0 : Int) (a1 : Int) (a2 : (List (Int × Int))) : Option Bool := (cond (decide (a0 < 0)) none (cond ((bAnd .u16 (bShr .u16 a1 a0) 1) == 0) (cond (inB a0 (List.length a2)) (some ((bAndNot .u16 (List.getD a2 (Int.toNat a0) ((0, 0) : (Int × Int))).2 a1) == 0)) none) (some false)))
theorem f_iorder_1_top (a0 : Int) (a1 : Int) (a2 : (List (Int × Int))) (r : List A) : ev f_iorder_1_X (lpc (cnOf f_iorder_1_LV) (f_iorder_1_L r)) f_iorder_1_c (K0 TT f_iorder_1_rv) (enter [.v (.int .i64 a0), .ref (.v (.int .u16 a1)), .ref (.lst (.st [(.i .i8), (.i .u16)]) a2)]) = (cond (decide (a0 < 0)) none (cond ((bAnd .u16 (bShr .u16 a1 a0) 1) == 0) (cond (inB a0 (List.length a2)) (some [.v (.bool ((bAndNot .u16 (List.getD a2 (Int.toNat a0) ((0, 0) : (Int × Int))).2 a1) == 0))]) none) (some [.v (.bool false)]))) := by kernel_rfl
noncomputable def l_iorder_1 (r : Bool) : List A := [.v (.bool r)]
theorem s_iorder_1_ok (a0 : Int) (a1 : Int) (a2 : (List (Int × Int))) (v : Bool) (h : s_iorder_1 a0 a1 a2 = some v) : (cond (decide (a0 < 0)) none (cond ((bAnd .u16 (bShr .u16 a1 a0) 1) == 0) (cond (inB a0 (List.length a2)) (some [.v (.bool ((bAndNot .u16 (List.getD a2 (Int.toNat a0) ((0, 0) : (Int × Int))).2 a1) == 0))]) none) (some [.v (.bool false)]))) = some (l_iorder_1 v) := by
  have e : (cond (decide (a0 < 0)) none (cond ((bAnd .u16 (bShr .u16 a1 a0) 1) == 0) (cond (inB a0 (List.length a2)) (some [.v (.bool ((bAndNot .u16 (List.getD a2 (Int.toNat a0) ((0, 0) : (Int × Int))).2 a1) == 0))]) none) (some [.v (.bool false)]))) = Option.map l_iorder_1 (s_iorder_1 a0 a1 a2) := by
    unfold s_iorder_1
    exact (cond_app (Option.map l_iorder_1) rfl (cond_app (Option.map l_iorder_1) (cond_app (Option.map l_iorder_1) rfl rfl) rfl))
  rw [e, h]; rfl
noncomputable def c_iorder_1 : List A → ACall
  | [.v (.int .i64 a0), .ref (.v (.int .u16 a1)), .ref (.lst (.st [(.i .i8), (.i .u16)]) a2)] => ⟨Bool, s_iorder_1 a0 a1 a2, fun r => .one (.v (.bool r))⟩
  | _ => ACall.fail
theorem f_iorder_1_sound : Sound Try.prog 205 c_iorder_1 := by
  refine sound_good f_iorder_1_ctx f_iorder_1_LV 3 Try.func205 (c := f_iorder_1_c) (by kernel_rfl) (rv := f_iorder_1_rv) (by kernel_rfl) (by kernel_rfl) (by kernel_rfl) (by kernel_rfl) fun rs => ?_
  unfold c_iorder_1
  split
  · rename_i a0 a1 a2; intro v h; exact ⟨rfl, l_iorder_1 v, rfl, (f_iorder_1_top a0 a1 a2 _).trans (s_iorder_1_ok a0 a1 a2 v h)⟩
  · intro v h; cases h

/-! ### function 198: slices.IndexFunc[[]int,int] -/
noncomputable def f_gIndexFunc_int_a_c : Code := match Try.f198.body with | some c => c | none => .skip
noncomputable def f_gIndexFunc_int_a_X : Ctx := ⟨TT, phiOf [(205, c_iorder_1)], noPsi, noXi⟩
def f_gIndexFunc_int_a_LV : List (Nat × Keep) := [(2, ([0, 1, 7, 8], [], []))]
def f_gIndexFunc_int_a_rv : List ResultVar := [.tmp 4]
noncomputable def f_gIndexFunc_int_a_L (r : List A) : Nat → AS → Option (List A) := L f_gIndexFunc_int_a_X (cnOf f_gIndexFunc_int_a_LV) f_gIndexFunc_int_a_c (K0 TT f_gIndexFunc_int_a_rv) r
theorem f_gIndexFunc_int_a_ctx : CtxOK Try.prog f_gIndexFunc_int_a_X := ctx_of tab mix ⟨⟨Try.call205, f_iorder_1_sound⟩, trivial⟩
noncomputable def f_gIndexFunc_int_a_s2 (x0 : Int) (x1 : Int) (x2 : (List Int)) (x3 : Int) (x4 : (List (Int × Int))) : AS := ⟨[(0, .a (.sl 0)), (1, .a (.clo 205 [.ptr 1 [] (0), .ptr 2 [] (0)])), (7, .a (.v (.int .i64 x0))), (8, .a (.v (.int .i64 x1)))], [(0, some ⟨false, .arr (.one (.i .i64)) x2⟩), (1, some ⟨false, .box (.v (.int .u16 x3))⟩), (2, some ⟨false, .box (.sl 3)⟩), (3, some ⟨false, .arr (.st [(.i .i8), (.i .u16)]) x4⟩)], 4⟩
noncomputable def l_gIndexFunc_int_a (r : Int) : List A := [.v (.int .i64 r)]
theorem f_gIndexFunc_int_a_step2 (x0 : Int) (x1 : Int) (x2 : (List Int)) (x3 : Int) (x4 : (List (Int × Int))) (r : List A) (h : (cond (decide (x1 < x0)) (cond (inB x1 (List.length x2)) (Option.bind (s_iorder_1 (List.getD x2 (Int.toNat x1) 0) x3 x4) fun r1 => (cond r1 (some [.v (.int .i64 x1)]) (f_gIndexFunc_int_a_L r 2 (f_gIndexFunc_int_a_s2 x0 (IntKind.wrap .i64 (x1 + 1)) x2 x3 x4)))) none) (some [.v (.int .i64 (-1))])) = some r) : f_gIndexFunc_int_a_L r 2 (f_gIndexFunc_int_a_s2 x0 x1 x2 x3 x4) = some r :=
  step_of' h (by kernel_rfl)
noncomputable def f_gIndexFunc_int_a_n2 (x0 : Int) (x1 : Int) (x2 : (List Int)) (x3 : Int) (x4 : (List (Int × Int))) : Option ((Int × Int × (List Int) × Int × (List (Int × Int))) ⊕ Int) := (cond (decide (x1 < x0)) (cond (inB x1 (List.length x2)) (Option.bind (s_iorder_1 (List.getD x2 (Int.toNat x1) 0) x3 x4) fun r1 => (cond r1 (some (Sum.inr x1)) (some (Sum.inl (x0, (IntKind.wrap .i64 (x1 + 1)), x2, x3, x4))))) none) (some (Sum.inr (-1))))
noncomputable def f_gIndexFunc_int_a_run2 (x : (Int × Int × (List Int) × Int × (List (Int × Int)))) : Option Int := iter (fun x => f_gIndexFunc_int_a_n2 x.1 x.2.1 x.2.2.1 x.2.2.2.1 x.2.2.2.2) FU x
noncomputable def f_gIndexFunc_int_a_G2 (r : List A) (x : (Int × Int × (List Int) × Int × (List (Int × Int)))) : Prop := f_gIndexFunc_int_a_L r 2 (f_gIndexFunc_int_a_s2 x.1 x.2.1 x.2.2.1 x.2.2.2.1 x.2.2.2.2) = some r
noncomputable def f_gIndexFunc_int_a_S2 (r : List A) : Int → Prop := fun v => r = l_gIndexFunc_int_a v
theorem f_gIndexFunc_int_a_go2 (r : List A) : ∀ x, sem (f_gIndexFunc_int_a_S2 r) (f_gIndexFunc_int_a_run2 x) → f_gIndexFunc_int_a_G2 r x :=
  fun x => iter_sound (step := fun x => f_gIndexFunc_int_a_n2 x.1 x.2.1 x.2.2.1 x.2.2.2.1 x.2.2.2.2) (fun x h => by
    unfold f_gIndexFunc_int_a_n2 at h
    exact f_gIndexFunc_int_a_step2 x.1 x.2.1 x.2.2.1 x.2.2.2.1 x.2.2.2.2 r ((sem_cond h (fun h => (sem_cond h (fun h => (sem_bind h fun r1 h => (sem_cond h (fun h => sem_got h fun q => some_eq q) (fun h => sem_got h fun q => q)))) (fun h => sem_none h))) (fun h => sem_got h fun q => some_eq q)))) FU x
noncomputable def s_gIndexFunc_int_a (a0 : (List Int)) (a1 : Int) (a2 : (List (Int × Int))) : Option Int := (f_gIndexFunc_int_a_run2 (((List.length a0 : Nat) : Int), 0, a0, a1, a2))
theorem f_gIndexFunc_int_a_top (a0 : (List Int)) (a1 : Int) (a2 : (List (Int × Int))) (r : List A) : ev f_gIndexFunc_int_a_X (lpc (cnOf f_gIndexFunc_int_a_LV) (f_gIndexFunc_int_a_L r)) f_gIndexFunc_int_a_c (K0 TT f_gIndexFunc_int_a_rv) (enter [.lst (.one (.i .i64)) a0, .clo 205 [.ref (.v (.int .u16 a1)), .ref (.lst (.st [(.i .i8), (.i .u16)]) a2)]]) = (f_gIndexFunc_int_a_L r 2 (f_gIndexFunc_int_a_s2 ((List.length a0 : Nat) : Int) 0 a0 a1 a2)) := by kernel_rfl
theorem s_gIndexFunc_int_a_ok (a0 : (List Int)) (a1 : Int) (a2 : (List (Int × Int))) (v : Int) (h : s_gIndexFunc_int_a a0 a1 a2 = some v) : (f_gIndexFunc_int_a_L (l_gIndexFunc_int_a v) 2 (f_gIndexFunc_int_a_s2 ((List.length a0 : Nat) : Int) 0 a0 a1 a2)) = some (l_gIndexFunc_int_a v) := by
  unfold s_gIndexFunc_int_a at h
  have go : ∀ r, sem (fun v => r = l_gIndexFunc_int_a v) ((f_gIndexFunc_int_a_run2 (((List.length a0 : Nat) : Int), 0, a0, a1, a2))) → (f_gIndexFunc_int_a_L r 2 (f_gIndexFunc_int_a_s2 ((List.length a0 : Nat) : Int) 0 a0 a1 a2)) = some r := fun r h => f_gIndexFunc_int_a_go2 r _ h
  exact go (l_gIndexFunc_int_a v) ⟨v, h, rfl⟩
noncomputable def c_gIndexFunc_int_a : List A → ACall
  | [.lst (.one (.i .i64)) a0, .clo 205 [.ref (.v (.int .u16 a1)), .ref (.lst (.st [(.i .i8), (.i .u16)]) a2)]] => ⟨Int, s_gIndexFunc_int_a a0 a1 a2, fun r => .one (.v (.int .i64 r))⟩
  | _ => ACall.fail
theorem f_gIndexFunc_int_a_sound : Sound Try.prog 198 c_gIndexFunc_int_a := by
  refine sound_good f_gIndexFunc_int_a_ctx f_gIndexFunc_int_a_LV 2 Try.func198 (c := f_gIndexFunc_int_a_c) (by kernel_rfl) (rv := f_gIndexFunc_int_a_rv) (by kernel_rfl) (by kernel_rfl) (by kernel_rfl) (by kernel_rfl) fun rs => ?_
  unfold c_gIndexFunc_int_a
  split
  · rename_i a0 a1 a2; intro v h; exact ⟨rfl, l_gIndexFunc_int_a v, rfl, (f_gIndexFunc_int_a_top a0 a1 a2 _).trans (s_gIndexFunc_int_a_ok a0 a1 a2 v h)⟩
  · intro v h; cases h
def m_gIndexFunc_int_a : List A → Bool
  | [_, .clo 205 _] => true
  | _ => false

/-! ### function 167: loop.example/g01322/impl.order -/
noncomputable def f_iorder_c : Code := match Try.f167.body with | some c => c | none => .skip
noncomputable def f_iorder_X : Ctx := ⟨TT, phiOf [(198, c_gIndexFunc_int_a), (199, c_iindices)], noPsi, noXi⟩
def f_iorder_LV : List (Nat × Keep) := [(3, ([1, 3, 4, 8, 9], [], []))]
def f_iorder_rv : List ResultVar := [.tmp 2]
noncomputable def f_iorder_L (r : List A) : Nat → AS → Option (List A) := L f_iorder_X (cnOf f_iorder_LV) f_iorder_c (K0 TT f_iorder_rv) r
theorem f_iorder_ctx : CtxOK Try.prog f_iorder_X := ctx_of tab mix ⟨⟨Try.call198, f_gIndexFunc_int_a_sound⟩, ⟨Try.call199, f_iindices_sound⟩, trivial⟩
noncomputable def f_iorder_s3 (x0 : Int) (x1 : Int) (x2 : (List (Int × Int))) (x3 : (List Int)) (x4 : Int) : AS := ⟨[(1, .a (.ptr 0 [] (0))), (3, .a (.sl 2)), (4, .a (.ptr 3 [] (0))), (8, .a (.v (.int .i64 x0))), (9, .a (.v (.int .i64 x1)))], [(0, some ⟨true, .box (.sl 1)⟩), (1, some ⟨false, .arr (.st [(.i .i8), (.i .u16)]) x2⟩), (2, some ⟨true, .arr (.one (.i .i64)) x3⟩), (3, some ⟨true, .box (.v (.int .u16 x4))⟩)], 4⟩
noncomputable def l_iorder (r : (List Int)) : List A := [.lst (.one (.i .i64)) r]
theorem f_iorder_step3 (x0 : Int) (x1 : Int) (x2 : (List (Int × Int))) (x3 : (List Int)) (x4 : Int) (r : List A) (h : (cond (decide (x1 < x0)) (Option.bind (s_iindices x2) fun r1 => (Option.bind (s_gIndexFunc_int_a r1 x4 x2) fun r2 => (cond (decide (r2 < 0)) (some [.lst (.one (.i .i64)) x3]) (cond (fits ((List.length (x3 : List Int) + List.length ([r2] : List Int)) * 8)) (cond (decide (r2 < 0)) none (f_iorder_L r 3 (f_iorder_s3 x0 (IntKind.wrap .i64 (x1 + 1)) x2 (x3 ++ [r2]) (bOr .u16 x4 (bShl .u16 1 r2))))) none)))) (some [.lst (.one (.i .i64)) x3])) = some r) : f_iorder_L r 3 (f_iorder_s3 x0 x1 x2 x3 x4) = some r :=
  step_of' h (by kernel_rfl)
noncomputable def f_iorder_n3 (x0 : Int) (x1 : Int) (x2 : (List (Int × Int))) (x3 : (List Int)) (x4 : Int) : Option ((Int × Int × (List (Int × Int)) × (List Int) × Int) ⊕ (List Int)) := (cond (decide (x1 < x0)) (Option.bind (s_iindices x2) fun r1 => (Option.bind (s_gIndexFunc_int_a r1 x4 x2) fun r2 => (cond (decide (r2 < 0)) (some (Sum.inr x3)) (cond (fits ((List.length (x3 : List Int) + List.length ([r2] : List Int)) * 8)) (cond (decide (r2 < 0)) none (some (Sum.inl (x0, (IntKind.wrap .i64 (x1 + 1)), x2, (x3 ++ [r2]), (bOr .u16 x4 (bShl .u16 1 r2)))))) none)))) (some (Sum.inr x3)))
noncomputable def f_iorder_run3 (x : (Int × Int × (List (Int × Int)) × (List Int) × Int)) : Option (List Int) := iter (fun x => f_iorder_n3 x.1 x.2.1 x.2.2.1 x.2.2.2.1 x.2.2.2.2) FU x
noncomputable def f_iorder_G3 (r : List A) (x : (Int × Int × (List (Int × Int)) × (List Int) × Int)) : Prop := f_iorder_L r 3 (f_iorder_s3 x.1 x.2.1 x.2.2.1 x.2.2.2.1 x.2.2.2.2) = some r
noncomputable def f_iorder_S3 (r : List A) : (List Int) → Prop := fun v => r = l_iorder v
theorem f_iorder_go3 (r : List A) : ∀ x, sem (f_iorder_S3 r) (f_iorder_run3 x) → f_iorder_G3 r x :=
  fun x => iter_sound (step := fun x => f_iorder_n3 x.1 x.2.1 x.2.2.1 x.2.2.2.1 x.2.2.2.2) (fun x h => by
    unfold f_iorder_n3 at h
    exact f_iorder_step3 x.1 x.2.1 x.2.2.1 x.2.2.2.1 x.2.2.2.2 r ((sem_cond h (fun h => (sem_bind h fun r1 h => (sem_bind h fun r2 h => (sem_cond h (fun h => sem_got h fun q => some_eq q) (fun h => (sem_cond h (fun h => (sem_cond h (fun h => sem_none h) (fun h => sem_got h fun q => q))) (fun h => sem_none h))))))) (fun h => sem_got h fun q => some_eq q)))) FU x
noncomputable def s_iorder (a0 : (List (Int × Int))) : Option (List Int) := (f_iorder_run3 (((List.length a0 : Nat) : Int), 0, a0, [], 0))
theorem f_iorder_top (a0 : (List (Int × Int))) (r : List A) : ev f_iorder_X (lpc (cnOf f_iorder_LV) (f_iorder_L r)) f_iorder_c (K0 TT f_iorder_rv) (enter [.lst (.st [(.i .i8), (.i .u16)]) a0]) = (f_iorder_L r 3 (f_iorder_s3 ((List.length a0 : Nat) : Int) 0 a0 [] 0)) := by kernel_rfl
theorem s_iorder_ok (a0 : (List (Int × Int))) (v : (List Int)) (h : s_iorder a0 = some v) : (f_iorder_L (l_iorder v) 3 (f_iorder_s3 ((List.length a0 : Nat) : Int) 0 a0 [] 0)) = some (l_iorder v) := by
  unfold s_iorder at h
  have go : ∀ r, sem (fun v => r = l_iorder v) ((f_iorder_run3 (((List.length a0 : Nat) : Int), 0, a0, [], 0))) → (f_iorder_L r 3 (f_iorder_s3 ((List.length a0 : Nat) : Int) 0 a0 [] 0)) = some r := fun r h => f_iorder_go3 r _ h
  exact go (l_iorder v) ⟨v, h, rfl⟩
noncomputable def c_iorder : List A → ACall
  | [.lst (.st [(.i .i8), (.i .u16)]) a0] => ⟨(List Int), s_iorder a0, fun r => .one (.lst (.one (.i .i64)) r)⟩
  | _ => ACall.fail
theorem f_iorder_sound : Sound Try.prog 167 c_iorder := by
  refine sound_good f_iorder_ctx f_iorder_LV 1 Try.func167 (c := f_iorder_c) (by kernel_rfl) (rv := f_iorder_rv) (by kernel_rfl) (by kernel_rfl) (by kernel_rfl) (by kernel_rfl) fun rs => ?_
  unfold c_iorder
  split
  · rename_i a0; intro v h; exact ⟨rfl, l_iorder v, rfl, (f_iorder_top a0 _).trans (s_iorder_ok a0 v h)⟩
  · intro v h; cases h

/-! ### function 166: loop.example/g01322/impl.ValidJobs$1 -/
noncomputable def f_iValidJobs_1_c : Code := match Try.f166.body with | some c => c | none => .skip
noncomputable def f_iValidJobs_1_X : Ctx := ⟨TT, phiOf [(92, c_iwithin)], noPsi, noXi⟩
def f_iValidJobs_1_LV : List (Nat × Keep) := []
def f_iValidJobs_1_rv : List ResultVar := [.tmp 3]
noncomputable def f_iValidJobs_1_L (r : List A) : Nat → AS → Option (List A) := L f_iValidJobs_1_X (cnOf f_iValidJobs_1_LV) f_iValidJobs_1_c (K0 TT f_iValidJobs_1_rv) r
theorem f_iValidJobs_1_ctx : CtxOK Try.prog f_iValidJobs_1_X := ctx_of tab mix ⟨⟨Try.call92, f_iwithin_sound⟩, trivial⟩
noncomputable def s_iValidJobs_1 (a0 : Int) (a1 : Int) (a2 : Int) : Option Bool := (cond (!(s_iwithin (IntKind.wrap .i64 a0) 1 30)) (some true) (cond (decide (a2 < 0)) none (some ((bShr .u16 a1 a2) != 0))))
theorem f_iValidJobs_1_top (a0 : Int) (a1 : Int) (a2 : Int) (r : List A) : ev f_iValidJobs_1_X (lpc (cnOf f_iValidJobs_1_LV) (f_iValidJobs_1_L r)) f_iValidJobs_1_c (K0 TT f_iValidJobs_1_rv) (enter [.rc [.v (.int .i8 a0), .v (.int .u16 a1)], .ref (.v (.int .i64 a2))]) = (cond (!(s_iwithin (IntKind.wrap .i64 a0) 1 30)) (some [.v (.bool true)]) (cond (decide (a2 < 0)) none (some [.v (.bool ((bShr .u16 a1 a2) != 0))]))) := by kernel_rfl
noncomputable def l_iValidJobs_1 (r : Bool) : List A := [.v (.bool r)]
theorem s_iValidJobs_1_ok (a0 : Int) (a1 : Int) (a2 : Int) (v : Bool) (h : s_iValidJobs_1 a0 a1 a2 = some v) : (cond (!(s_iwithin (IntKind.wrap .i64 a0) 1 30)) (some [.v (.bool true)]) (cond (decide (a2 < 0)) none (some [.v (.bool ((bShr .u16 a1 a2) != 0))]))) = some (l_iValidJobs_1 v) := by
  have e : (cond (!(s_iwithin (IntKind.wrap .i64 a0) 1 30)) (some [.v (.bool true)]) (cond (decide (a2 < 0)) none (some [.v (.bool ((bShr .u16 a1 a2) != 0))]))) = Option.map l_iValidJobs_1 (s_iValidJobs_1 a0 a1 a2) := by
    unfold s_iValidJobs_1
    exact (cond_app (Option.map l_iValidJobs_1) rfl (cond_app (Option.map l_iValidJobs_1) rfl rfl))
  rw [e, h]; rfl
noncomputable def c_iValidJobs_1 : List A → ACall
  | [.rc [.v (.int .i8 a0), .v (.int .u16 a1)], .ref (.v (.int .i64 a2))] => ⟨Bool, s_iValidJobs_1 a0 a1 a2, fun r => .one (.v (.bool r))⟩
  | _ => ACall.fail
theorem f_iValidJobs_1_sound : Sound Try.prog 166 c_iValidJobs_1 := by
  refine sound_good f_iValidJobs_1_ctx f_iValidJobs_1_LV 2 Try.func166 (c := f_iValidJobs_1_c) (by kernel_rfl) (rv := f_iValidJobs_1_rv) (by kernel_rfl) (by kernel_rfl) (by kernel_rfl) (by kernel_rfl) fun rs => ?_
  unfold c_iValidJobs_1
  split
  · rename_i a0 a1 a2; intro v h; exact ⟨rfl, l_iValidJobs_1 v, rfl, (f_iValidJobs_1_top a0 a1 a2 _).trans (s_iValidJobs_1_ok a0 a1 a2 v h)⟩
  · intro v h; cases h

/-! ### function 204: slices.IndexFunc[[]loop.example/g01322/impl.Job,loop.example/g01322/impl.Job] -/
noncomputable def f_gIndexFunc_Job_a_c : Code := match Try.f204.body with | some c => c | none => .skip
noncomputable def f_gIndexFunc_Job_a_X : Ctx := ⟨TT, phiOf [(166, c_iValidJobs_1)], noPsi, noXi⟩
def f_gIndexFunc_Job_a_LV : List (Nat × Keep) := [(2, ([0, 1, 7, 8], [], []))]
def f_gIndexFunc_Job_a_rv : List ResultVar := [.tmp 4]
noncomputable def f_gIndexFunc_Job_a_L (r : List A) : Nat → AS → Option (List A) := L f_gIndexFunc_Job_a_X (cnOf f_gIndexFunc_Job_a_LV) f_gIndexFunc_Job_a_c (K0 TT f_gIndexFunc_Job_a_rv) r
theorem f_gIndexFunc_Job_a_ctx : CtxOK Try.prog f_gIndexFunc_Job_a_X := ctx_of tab mix ⟨⟨Try.call166, f_iValidJobs_1_sound⟩, trivial⟩
noncomputable def f_gIndexFunc_Job_a_s2 (x0 : Int) (x1 : Int) (x2 : (List (Int × Int))) (x3 : Int) : AS := ⟨[(0, .a (.sl 0)), (1, .a (.clo 166 [.ptr 1 [] (0)])), (7, .a (.v (.int .i64 x0))), (8, .a (.v (.int .i64 x1)))], [(0, some ⟨false, .arr (.st [(.i .i8), (.i .u16)]) x2⟩), (1, some ⟨false, .box (.v (.int .i64 x3))⟩)], 2⟩
noncomputable def l_gIndexFunc_Job_a (r : Int) : List A := [.v (.int .i64 r)]
theorem f_gIndexFunc_Job_a_step2 (x0 : Int) (x1 : Int) (x2 : (List (Int × Int))) (x3 : Int) (r : List A) (h : (cond (decide (x1 < x0)) (cond (inB x1 (List.length x2)) (Option.bind (s_iValidJobs_1 (List.getD x2 (Int.toNat x1) ((0, 0) : (Int × Int))).1 (List.getD x2 (Int.toNat x1) ((0, 0) : (Int × Int))).2 x3) fun r1 => (cond r1 (some [.v (.int .i64 x1)]) (f_gIndexFunc_Job_a_L r 2 (f_gIndexFunc_Job_a_s2 x0 (IntKind.wrap .i64 (x1 + 1)) x2 x3)))) none) (some [.v (.int .i64 (-1))])) = some r) : f_gIndexFunc_Job_a_L r 2 (f_gIndexFunc_Job_a_s2 x0 x1 x2 x3) = some r :=
  step_of' h (by kernel_rfl)
noncomputable def f_gIndexFunc_Job_a_n2 (x0 : Int) (x1 : Int) (x2 : (List (Int × Int))) (x3 : Int) : Option ((Int × Int × (List (Int × Int)) × Int) ⊕ Int) := (cond (decide (x1 < x0)) (cond (inB x1 (List.length x2)) (Option.bind (s_iValidJobs_1 (List.getD x2 (Int.toNat x1) ((0, 0) : (Int × Int))).1 (List.getD x2 (Int.toNat x1) ((0, 0) : (Int × Int))).2 x3) fun r1 => (cond r1 (some (Sum.inr x1)) (some (Sum.inl (x0, (IntKind.wrap .i64 (x1 + 1)), x2, x3))))) none) (some (Sum.inr (-1))))
noncomputable def f_gIndexFunc_Job_a_run2 (x : (Int × Int × (List (Int × Int)) × Int)) : Option Int := iter (fun x => f_gIndexFunc_Job_a_n2 x.1 x.2.1 x.2.2.1 x.2.2.2) FU x
noncomputable def f_gIndexFunc_Job_a_G2 (r : List A) (x : (Int × Int × (List (Int × Int)) × Int)) : Prop := f_gIndexFunc_Job_a_L r 2 (f_gIndexFunc_Job_a_s2 x.1 x.2.1 x.2.2.1 x.2.2.2) = some r
noncomputable def f_gIndexFunc_Job_a_S2 (r : List A) : Int → Prop := fun v => r = l_gIndexFunc_Job_a v
theorem f_gIndexFunc_Job_a_go2 (r : List A) : ∀ x, sem (f_gIndexFunc_Job_a_S2 r) (f_gIndexFunc_Job_a_run2 x) → f_gIndexFunc_Job_a_G2 r x :=
  fun x => iter_sound (step := fun x => f_gIndexFunc_Job_a_n2 x.1 x.2.1 x.2.2.1 x.2.2.2) (fun x h => by
    unfold f_gIndexFunc_Job_a_n2 at h
    exact f_gIndexFunc_Job_a_step2 x.1 x.2.1 x.2.2.1 x.2.2.2 r ((sem_cond h (fun h => (sem_cond h (fun h => (sem_bind h fun r1 h => (sem_cond h (fun h => sem_got h fun q => some_eq q) (fun h => sem_got h fun q => q)))) (fun h => sem_none h))) (fun h => sem_got h fun q => some_eq q)))) FU x
noncomputable def s_gIndexFunc_Job_a (a0 : (List (Int × Int))) (a1 : Int) : Option Int := (f_gIndexFunc_Job_a_run2 (((List.length a0 : Nat) : Int), 0, a0, a1))
theorem f_gIndexFunc_Job_a_top (a0 : (List (Int × Int))) (a1 : Int) (r : List A) : ev f_gIndexFunc_Job_a_X (lpc (cnOf f_gIndexFunc_Job_a_LV) (f_gIndexFunc_Job_a_L r)) f_gIndexFunc_Job_a_c (K0 TT f_gIndexFunc_Job_a_rv) (enter [.lst (.st [(.i .i8), (.i .u16)]) a0, .clo 166 [.ref (.v (.int .i64 a1))]]) = (f_gIndexFunc_Job_a_L r 2 (f_gIndexFunc_Job_a_s2 ((List.length a0 : Nat) : Int) 0 a0 a1)) := by kernel_rfl
theorem s_gIndexFunc_Job_a_ok (a0 : (List (Int × Int))) (a1 : Int) (v : Int) (h : s_gIndexFunc_Job_a a0 a1 = some v) : (f_gIndexFunc_Job_a_L (l_gIndexFunc_Job_a v) 2 (f_gIndexFunc_Job_a_s2 ((List.length a0 : Nat) : Int) 0 a0 a1)) = some (l_gIndexFunc_Job_a v) := by
  unfold s_gIndexFunc_Job_a at h
  have go : ∀ r, sem (fun v => r = l_gIndexFunc_Job_a v) ((f_gIndexFunc_Job_a_run2 (((List.length a0 : Nat) : Int), 0, a0, a1))) → (f_gIndexFunc_Job_a_L r 2 (f_gIndexFunc_Job_a_s2 ((List.length a0 : Nat) : Int) 0 a0 a1)) = some r := fun r h => f_gIndexFunc_Job_a_go2 r _ h
  exact go (l_gIndexFunc_Job_a v) ⟨v, h, rfl⟩
noncomputable def c_gIndexFunc_Job_a : List A → ACall
  | [.lst (.st [(.i .i8), (.i .u16)]) a0, .clo 166 [.ref (.v (.int .i64 a1))]] => ⟨Int, s_gIndexFunc_Job_a a0 a1, fun r => .one (.v (.int .i64 r))⟩
  | _ => ACall.fail
theorem f_gIndexFunc_Job_a_sound : Sound Try.prog 204 c_gIndexFunc_Job_a := by
  refine sound_good f_gIndexFunc_Job_a_ctx f_gIndexFunc_Job_a_LV 2 Try.func204 (c := f_gIndexFunc_Job_a_c) (by kernel_rfl) (rv := f_gIndexFunc_Job_a_rv) (by kernel_rfl) (by kernel_rfl) (by kernel_rfl) (by kernel_rfl) fun rs => ?_
  unfold c_gIndexFunc_Job_a
  split
  · rename_i a0 a1; intro v h; exact ⟨rfl, l_gIndexFunc_Job_a v, rfl, (f_gIndexFunc_Job_a_top a0 a1 _).trans (s_gIndexFunc_Job_a_ok a0 a1 v h)⟩
  · intro v h; cases h
def m_gIndexFunc_Job_a : List A → Bool
  | [_, .clo 166 _] => true
  | _ => false

/-! ### function 165: slices.ContainsFunc[[]loop.example/g01322/impl.Job,loop.example/g01322/impl.Job] -/
noncomputable def f_gContainsFunc_Job_a_c : Code := match Try.f165.body with | some c => c | none => .skip
noncomputable def f_gContainsFunc_Job_a_X : Ctx := ⟨TT, phiOf [(204, c_gIndexFunc_Job_a)], noPsi, noXi⟩
def f_gContainsFunc_Job_a_LV : List (Nat × Keep) := []
def f_gContainsFunc_Job_a_rv : List ResultVar := [.tmp 4]
noncomputable def f_gContainsFunc_Job_a_L (r : List A) : Nat → AS → Option (List A) := L f_gContainsFunc_Job_a_X (cnOf f_gContainsFunc_Job_a_LV) f_gContainsFunc_Job_a_c (K0 TT f_gContainsFunc_Job_a_rv) r
theorem f_gContainsFunc_Job_a_ctx : CtxOK Try.prog f_gContainsFunc_Job_a_X := ctx_of tab mix ⟨⟨Try.call204, f_gIndexFunc_Job_a_sound⟩, trivial⟩
noncomputable def s_gContainsFunc_Job_a (a0 : (List (Int × Int))) (a1 : Int) : Option Bool := (Option.bind (s_gIndexFunc_Job_a a0 a1) fun r1 => (some (decide (r1 ≥ 0))))
theorem f_gContainsFunc_Job_a_top (a0 : (List (Int × Int))) (a1 : Int) (r : List A) : ev f_gContainsFunc_Job_a_X (lpc (cnOf f_gContainsFunc_Job_a_LV) (f_gContainsFunc_Job_a_L r)) f_gContainsFunc_Job_a_c (K0 TT f_gContainsFunc_Job_a_rv) (enter [.lst (.st [(.i .i8), (.i .u16)]) a0, .clo 166 [.ref (.v (.int .i64 a1))]]) = (Option.bind (s_gIndexFunc_Job_a a0 a1) fun r1 => (some [.v (.bool (decide (r1 ≥ 0)))])) := by kernel_rfl
noncomputable def l_gContainsFunc_Job_a (r : Bool) : List A := [.v (.bool r)]
theorem s_gContainsFunc_Job_a_ok (a0 : (List (Int × Int))) (a1 : Int) (v : Bool) (h : s_gContainsFunc_Job_a a0 a1 = some v) : (Option.bind (s_gIndexFunc_Job_a a0 a1) fun r1 => (some [.v (.bool (decide (r1 ≥ 0)))])) = some (l_gContainsFunc_Job_a v) := by
  have e : (Option.bind (s_gIndexFunc_Job_a a0 a1) fun r1 => (some [.v (.bool (decide (r1 ≥ 0)))])) = Option.map l_gContainsFunc_Job_a (s_gContainsFunc_Job_a a0 a1) := by
    unfold s_gContainsFunc_Job_a
    exact (bind_app fun _ => rfl)
  rw [e, h]; rfl
noncomputable def c_gContainsFunc_Job_a : List A → ACall
  | [.lst (.st [(.i .i8), (.i .u16)]) a0, .clo 166 [.ref (.v (.int .i64 a1))]] => ⟨Bool, s_gContainsFunc_Job_a a0 a1, fun r => .one (.v (.bool r))⟩
  | _ => ACall.fail
theorem f_gContainsFunc_Job_a_sound : Sound Try.prog 165 c_gContainsFunc_Job_a := by
  refine sound_good f_gContainsFunc_Job_a_ctx f_gContainsFunc_Job_a_LV 2 Try.func165 (c := f_gContainsFunc_Job_a_c) (by kernel_rfl) (rv := f_gContainsFunc_Job_a_rv) (by kernel_rfl) (by kernel_rfl) (by kernel_rfl) (by kernel_rfl) fun rs => ?_
  unfold c_gContainsFunc_Job_a
  split
  · rename_i a0 a1; intro v h; exact ⟨rfl, l_gContainsFunc_Job_a v, rfl, (f_gContainsFunc_Job_a_top a0 a1 _).trans (s_gContainsFunc_Job_a_ok a0 a1 v h)⟩
  · intro v h; cases h
def m_gContainsFunc_Job_a : List A → Bool
  | [_, .clo 166 _] => true
  | _ => false

/-! ### function 108: loop.example/g01322/impl.ValidJobs -/
noncomputable def f_iValidJobs_c : Code := match Try.f108.body with | some c => c | none => .skip
noncomputable def f_iValidJobs_X : Ctx := ⟨TT, phiOf [(165, c_gContainsFunc_Job_a), (167, c_iorder)], noPsi, noXi⟩
def f_iValidJobs_LV : List (Nat × Keep) := []
def f_iValidJobs_rv : List ResultVar := [.tmp 2]
noncomputable def f_iValidJobs_L (r : List A) : Nat → AS → Option (List A) := L f_iValidJobs_X (cnOf f_iValidJobs_LV) f_iValidJobs_c (K0 TT f_iValidJobs_rv) r
theorem f_iValidJobs_ctx : CtxOK Try.prog f_iValidJobs_X := ctx_of tab mix ⟨⟨Try.call165, f_gContainsFunc_Job_a_sound⟩, ⟨Try.call167, f_iorder_sound⟩, trivial⟩
noncomputable def s_iValidJobs (a0 : (List (Int × Int))) : Option Bool := (cond (decide (((List.length a0 : Nat) : Int) ≤ 12)) (Option.bind (s_gContainsFunc_Job_a a0 ((List.length a0 : Nat) : Int)) fun r1 => (cond (!r1) (Option.bind (s_iorder a0) fun r2 => (some (((List.length r2 : Nat) : Int) == ((List.length a0 : Nat) : Int)))) (some false))) (some false))
theorem f_iValidJobs_top (a0 : (List (Int × Int))) (r : List A) : ev f_iValidJobs_X (lpc (cnOf f_iValidJobs_LV) (f_iValidJobs_L r)) f_iValidJobs_c (K0 TT f_iValidJobs_rv) (enter [.lst (.st [(.i .i8), (.i .u16)]) a0]) = (cond (decide (((List.length a0 : Nat) : Int) ≤ 12)) (Option.bind (s_gContainsFunc_Job_a a0 ((List.length a0 : Nat) : Int)) fun r1 => (cond (!r1) (Option.bind (s_iorder a0) fun r2 => (some [.v (.bool (((List.length r2 : Nat) : Int) == ((List.length a0 : Nat) : Int)))])) (some [.v (.bool false)]))) (some [.v (.bool false)])) := by kernel_rfl
noncomputable def l_iValidJobs (r : Bool) : List A := [.v (.bool r)]
theorem s_iValidJobs_ok (a0 : (List (Int × Int))) (v : Bool) (h : s_iValidJobs a0 = some v) : (cond (decide (((List.length a0 : Nat) : Int) ≤ 12)) (Option.bind (s_gContainsFunc_Job_a a0 ((List.length a0 : Nat) : Int)) fun r1 => (cond (!r1) (Option.bind (s_iorder a0) fun r2 => (some [.v (.bool (((List.length r2 : Nat) : Int) == ((List.length a0 : Nat) : Int)))])) (some [.v (.bool false)]))) (some [.v (.bool false)])) = some (l_iValidJobs v) := by
  have e : (cond (decide (((List.length a0 : Nat) : Int) ≤ 12)) (Option.bind (s_gContainsFunc_Job_a a0 ((List.length a0 : Nat) : Int)) fun r1 => (cond (!r1) (Option.bind (s_iorder a0) fun r2 => (some [.v (.bool (((List.length r2 : Nat) : Int) == ((List.length a0 : Nat) : Int)))])) (some [.v (.bool false)]))) (some [.v (.bool false)])) = Option.map l_iValidJobs (s_iValidJobs a0) := by
    unfold s_iValidJobs
    exact (cond_app (Option.map l_iValidJobs) (bind_app fun _ => (cond_app (Option.map l_iValidJobs) (bind_app fun _ => rfl) rfl)) rfl)
  rw [e, h]; rfl
noncomputable def c_iValidJobs : List A → ACall
  | [.lst (.st [(.i .i8), (.i .u16)]) a0] => ⟨Bool, s_iValidJobs a0, fun r => .one (.v (.bool r))⟩
  | _ => ACall.fail
theorem f_iValidJobs_sound : Sound Try.prog 108 c_iValidJobs := by
  refine sound_good f_iValidJobs_ctx f_iValidJobs_LV 1 Try.func108 (c := f_iValidJobs_c) (by kernel_rfl) (rv := f_iValidJobs_rv) (by kernel_rfl) (by kernel_rfl) (by kernel_rfl) (by kernel_rfl) fun rs => ?_
  unfold c_iValidJobs
  split
  · rename_i a0; intro v h; exact ⟨rfl, l_iValidJobs v, rfl, (f_iValidJobs_top a0 _).trans (s_iValidJobs_ok a0 v h)⟩
  · intro v h; cases h

/-! ### function 195: loop.example/g01322/spec.l07Waits -/
noncomputable def f_sl07Waits_c : Code := match Try.f195.body with | some c => c | none => .skip
noncomputable def f_sl07Waits_X : Ctx := ⟨TT, phiOf [], noPsi, noXi⟩
def f_sl07Waits_LV : List (Nat × Keep) := []
def f_sl07Waits_rv : List ResultVar := [.tmp 6]
noncomputable def f_sl07Waits_L (r : List A) : Nat → AS → Option (List A) := L f_sl07Waits_X (cnOf f_sl07Waits_LV) f_sl07Waits_c (K0 TT f_sl07Waits_rv) r
theorem f_sl07Waits_ctx : CtxOK Try.prog f_sl07Waits_X := ctx_of tab mix trivial
noncomputable def s_sl07Waits (a0 : (List (Int × Int))) (a1 : Int) (a2 : Int) : Option Bool := (cond (inB a1 (List.length a0)) (cond (decide ((IntKind.wrap .u64 a2) < 0)) none (some ((Int.tmod (bShr .u16 (List.getD a0 (Int.toNat a1) ((0, 0) : (Int × Int))).2 (IntKind.wrap .u64 a2)) 2) == 1))) none)
theorem f_sl07Waits_top (a0 : (List (Int × Int))) (a1 : Int) (a2 : Int) (r : List A) : ev f_sl07Waits_X (lpc (cnOf f_sl07Waits_LV) (f_sl07Waits_L r)) f_sl07Waits_c (K0 TT f_sl07Waits_rv) (enter [.lst (.st [(.i .i8), (.i .u16)]) a0, .v (.int .i64 a1), .v (.int .i64 a2)]) = (cond (inB a1 (List.length a0)) (cond (decide ((IntKind.wrap .u64 a2) < 0)) none (some [.v (.bool ((Int.tmod (bShr .u16 (List.getD a0 (Int.toNat a1) ((0, 0) : (Int × Int))).2 (IntKind.wrap .u64 a2)) 2) == 1))])) none) := by kernel_rfl
noncomputable def l_sl07Waits (r : Bool) : List A := [.v (.bool r)]
theorem s_sl07Waits_ok (a0 : (List (Int × Int))) (a1 : Int) (a2 : Int) (v : Bool) (h : s_sl07Waits a0 a1 a2 = some v) : (cond (inB a1 (List.length a0)) (cond (decide ((IntKind.wrap .u64 a2) < 0)) none (some [.v (.bool ((Int.tmod (bShr .u16 (List.getD a0 (Int.toNat a1) ((0, 0) : (Int × Int))).2 (IntKind.wrap .u64 a2)) 2) == 1))])) none) = some (l_sl07Waits v) := by
  have e : (cond (inB a1 (List.length a0)) (cond (decide ((IntKind.wrap .u64 a2) < 0)) none (some [.v (.bool ((Int.tmod (bShr .u16 (List.getD a0 (Int.toNat a1) ((0, 0) : (Int × Int))).2 (IntKind.wrap .u64 a2)) 2) == 1))])) none) = Option.map l_sl07Waits (s_sl07Waits a0 a1 a2) := by
    unfold s_sl07Waits
    exact (cond_app (Option.map l_sl07Waits) (cond_app (Option.map l_sl07Waits) rfl rfl) rfl)
  rw [e, h]; rfl
noncomputable def c_sl07Waits : List A → ACall
  | [.lst (.st [(.i .i8), (.i .u16)]) a0, .v (.int .i64 a1), .v (.int .i64 a2)] => ⟨Bool, s_sl07Waits a0 a1 a2, fun r => .one (.v (.bool r))⟩
  | _ => ACall.fail
theorem f_sl07Waits_sound : Sound Try.prog 195 c_sl07Waits := by
  refine sound_good f_sl07Waits_ctx f_sl07Waits_LV 3 Try.func195 (c := f_sl07Waits_c) (by kernel_rfl) (rv := f_sl07Waits_rv) (by kernel_rfl) (by kernel_rfl) (by kernel_rfl) (by kernel_rfl) fun rs => ?_
  unfold c_sl07Waits
  split
  · rename_i a0 a1 a2; intro v h; exact ⟨rfl, l_sl07Waits v, rfl, (f_sl07Waits_top a0 a1 a2 _).trans (s_sl07Waits_ok a0 a1 a2 v h)⟩
  · intro v h; cases h

/-! ### function 194: (loop.example/g01322/impl.Job).waits -/
noncomputable def f_iJob_waits_c : Code := match Try.f194.body with | some c => c | none => .skip
noncomputable def f_iJob_waits_X : Ctx := ⟨TT, phiOf [], noPsi, noXi⟩
def f_iJob_waits_LV : List (Nat × Keep) := []
def f_iJob_waits_rv : List ResultVar := [.tmp 4]
noncomputable def f_iJob_waits_L (r : List A) : Nat → AS → Option (List A) := L f_iJob_waits_X (cnOf f_iJob_waits_LV) f_iJob_waits_c (K0 TT f_iJob_waits_rv) r
theorem f_iJob_waits_ctx : CtxOK Try.prog f_iJob_waits_X := ctx_of tab mix trivial
noncomputable def s_iJob_waits (a0 : Int) (a1 : Int) (a2 : Int) : Option Bool := (cond (decide (a2 < 0)) none (some ((bAnd .u16 (bShr .u16 a1 a2) 1) == 1)))
theorem f_iJob_waits_top (a0 : Int) (a1 : Int) (a2 : Int) (r : List A) : ev f_iJob_waits_X (lpc (cnOf f_iJob_waits_LV) (f_iJob_waits_L r)) f_iJob_waits_c (K0 TT f_iJob_waits_rv) (enter [.rc [.v (.int .i8 a0), .v (.int .u16 a1)], .v (.int .i64 a2)]) = (cond (decide (a2 < 0)) none (some [.v (.bool ((bAnd .u16 (bShr .u16 a1 a2) 1) == 1))])) := by kernel_rfl
noncomputable def l_iJob_waits (r : Bool) : List A := [.v (.bool r)]
theorem s_iJob_waits_ok (a0 : Int) (a1 : Int) (a2 : Int) (v : Bool) (h : s_iJob_waits a0 a1 a2 = some v) : (cond (decide (a2 < 0)) none (some [.v (.bool ((bAnd .u16 (bShr .u16 a1 a2) 1) == 1))])) = some (l_iJob_waits v) := by
  have e : (cond (decide (a2 < 0)) none (some [.v (.bool ((bAnd .u16 (bShr .u16 a1 a2) 1) == 1))])) = Option.map l_iJob_waits (s_iJob_waits a0 a1 a2) := by
    unfold s_iJob_waits
    exact (cond_app (Option.map l_iJob_waits) rfl rfl)
  rw [e, h]; rfl
noncomputable def c_iJob_waits : List A → ACall
  | [.rc [.v (.int .i8 a0), .v (.int .u16 a1)], .v (.int .i64 a2)] => ⟨Bool, s_iJob_waits a0 a1 a2, fun r => .one (.v (.bool r))⟩
  | _ => ACall.fail
theorem f_iJob_waits_sound : Sound Try.prog 194 c_iJob_waits := by
  refine sound_good f_iJob_waits_ctx f_iJob_waits_LV 2 Try.func194 (c := f_iJob_waits_c) (by kernel_rfl) (rv := f_iJob_waits_rv) (by kernel_rfl) (by kernel_rfl) (by kernel_rfl) (by kernel_rfl) fun rs => ?_
  unfold c_iJob_waits
  split
  · rename_i a0 a1 a2; intro v h; exact ⟨rfl, l_iJob_waits v, rfl, (f_iJob_waits_top a0 a1 a2 _).trans (s_iJob_waits_ok a0 a1 a2 v h)⟩
  · intro v h; cases h
end Go.RR
