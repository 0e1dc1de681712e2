/- Pictures and jobs. -/
import Derived.Test.YtkohnhkehedflaaFb
set_option linter.unusedVariables false
set_option linter.unusedSimpArgs false
set_option linter.unusedSectionVars false
set_option maxRecDepth 100000
namespace Go.RR
open Go Go.Proofs

/-! ### function 38: loop.example/g01322/laws.markInt64S -/
noncomputable def f_wmarkInt64S_c : Code := match Try.f38.body with | some c => c | none => .skip
noncomputable def f_wmarkInt64S_X : Ctx := ⟨TT, phiOf [], noPsi, noXi⟩
def f_wmarkInt64S_LV : List (Nat × Keep) := [(2, ([0, 1, 5], [], []))]
def f_wmarkInt64S_rv : List ResultVar := [.tmp 4]
noncomputable def f_wmarkInt64S_L (r : List A) : Nat → AS → Option (List A) := L f_wmarkInt64S_X (cnOfU f_wmarkInt64S_LV) f_wmarkInt64S_c (K0U TT f_wmarkInt64S_rv) r
theorem f_wmarkInt64S_ctx : CtxOK Try.prog f_wmarkInt64S_X := ctx_of tab mix trivial
noncomputable def f_wmarkInt64S_s2 (x0 : Int) (x1 : Int) (x2 : (List Int)) : AS := ⟨[(0, .a (.sl 0)), (1, .a (.v (.int .i64 x0))), (5, .a (.v (.int .i64 x1)))], [(0, some ⟨true, .arr (.one (.i .i64)) x2⟩)], 1⟩
noncomputable def l_wmarkInt64S (r : (Int × (List Int))) : List A := [.v (.int .i64 r.1), .lst (.one (.i .i64)) r.2]
theorem f_wmarkInt64S_step2 (x0 : Int) (x1 : Int) (x2 : (List Int)) (r : List A) (h : (cond (decide (x1 < ((List.length x2 : Nat) : Int))) (cond (inB x1 (List.length x2)) (f_wmarkInt64S_L r 2 (f_wmarkInt64S_s2 (IntKind.wrap .i64 (x0 + 1)) (IntKind.wrap .i64 (x1 + 1)) (List.set x2 (Int.toNat x1) x0))) none) (some [.v (.int .i64 x0), .lst (.one (.i .i64)) x2])) = some r) : f_wmarkInt64S_L r 2 (f_wmarkInt64S_s2 x0 x1 x2) = some r :=
  step_of' h (by kernel_rfl)
noncomputable def f_wmarkInt64S_n2 (x0 : Int) (x1 : Int) (x2 : (List Int)) : Option ((Int × Int × (List Int)) ⊕ (Int × (List Int))) := (cond (decide (x1 < ((List.length x2 : Nat) : Int))) (cond (inB x1 (List.length x2)) (some (Sum.inl ((IntKind.wrap .i64 (x0 + 1)), (IntKind.wrap .i64 (x1 + 1)), (List.set x2 (Int.toNat x1) x0)))) none) (some (Sum.inr (x0, x2))))
noncomputable def f_wmarkInt64S_run2 (x : (Int × Int × (List Int))) : Option (Int × (List Int)) := iter (fun x => f_wmarkInt64S_n2 x.1 x.2.1 x.2.2) FU x
noncomputable def f_wmarkInt64S_G2 (r : List A) (x : (Int × Int × (List Int))) : Prop := f_wmarkInt64S_L r 2 (f_wmarkInt64S_s2 x.1 x.2.1 x.2.2) = some r
noncomputable def f_wmarkInt64S_S2 (r : List A) : (Int × (List Int)) → Prop := fun v => r = l_wmarkInt64S v
theorem f_wmarkInt64S_go2 (r : List A) : ∀ x, sem (f_wmarkInt64S_S2 r) (f_wmarkInt64S_run2 x) → f_wmarkInt64S_G2 r x :=
  fun x => iter_sound (step := fun x => f_wmarkInt64S_n2 x.1 x.2.1 x.2.2) (fun x h => by
    unfold f_wmarkInt64S_n2 at h
    exact f_wmarkInt64S_step2 x.1 x.2.1 x.2.2 r ((sem_cond h (fun h => (sem_cond h (fun h => sem_got h fun q => q) (fun h => sem_none h))) (fun h => sem_got h fun q => some_eq q)))) FU x
noncomputable def s_wmarkInt64S (a0 : (List Int)) (a1 : Int) : Option (Int × (List Int)) := (f_wmarkInt64S_run2 (a1, 0, a0))
theorem f_wmarkInt64S_top (a0 : (List Int)) (a1 : Int) (r : List A) : ev f_wmarkInt64S_X (lpc (cnOfU f_wmarkInt64S_LV) (f_wmarkInt64S_L r)) f_wmarkInt64S_c (K0U TT f_wmarkInt64S_rv) (enterU (.one (.i .i64)) a0 [.v (.int .i64 a1)]) = (f_wmarkInt64S_L r 2 (f_wmarkInt64S_s2 a1 0 a0)) := by kernel_rfl
theorem s_wmarkInt64S_ok (a0 : (List Int)) (a1 : Int) (v : (Int × (List Int))) (h : s_wmarkInt64S a0 a1 = some v) : (f_wmarkInt64S_L (l_wmarkInt64S v) 2 (f_wmarkInt64S_s2 a1 0 a0)) = some (l_wmarkInt64S v) := by
  unfold s_wmarkInt64S at h
  have go : ∀ r, sem (fun v => r = l_wmarkInt64S v) ((f_wmarkInt64S_run2 (a1, 0, a0))) → (f_wmarkInt64S_L r 2 (f_wmarkInt64S_s2 a1 0 a0)) = some r := fun r h => f_wmarkInt64S_go2 r _ h
  exact go (l_wmarkInt64S v) ⟨v, h, rfl⟩
noncomputable def u_wmarkInt64S : UCon := fun e l rest => match e, l, rest with
  | (.one (.i .i64)), a0, [.v (.int .i64 a1)] => ⟨(Int × (List Int)), s_wmarkInt64S a0 a1, fun r => some (.v (.int .i64 r.1)), fun r => r.2⟩
  | _, _, _ => UCall.fail
theorem f_wmarkInt64S_sound : USound Try.prog 38 u_wmarkInt64S := by
  refine sound_goodU f_wmarkInt64S_ctx f_wmarkInt64S_LV 2 Try.func38 (c := f_wmarkInt64S_c) (by kernel_rfl) (rv := f_wmarkInt64S_rv) (by kernel_rfl) (by kernel_rfl) (by kernel_rfl) (by kernel_rfl) fun e l rest => ?_
  unfold u_wmarkInt64S
  split
  · rename_i a0 a1; intro v h; exact ⟨rfl, (f_wmarkInt64S_top a0 a1 _).trans (s_wmarkInt64S_ok a0 a1 v h)⟩
  · intro v h; cases h

/-! ### function 36: loop.example/g01322/laws.markJobS -/
noncomputable def f_wmarkJobS_c : Code := match Try.f36.body with | some c => c | none => .skip
noncomputable def f_wmarkJobS_X : Ctx := ⟨TT, phiOf [], noPsi, noXi⟩
def f_wmarkJobS_LV : List (Nat × Keep) := [(2, ([0, 1, 5], [], []))]
def f_wmarkJobS_rv : List ResultVar := [.tmp 4]
noncomputable def f_wmarkJobS_L (r : List A) : Nat → AS → Option (List A) := L f_wmarkJobS_X (cnOfU f_wmarkJobS_LV) f_wmarkJobS_c (K0U TT f_wmarkJobS_rv) r
theorem f_wmarkJobS_ctx : CtxOK Try.prog f_wmarkJobS_X := ctx_of tab mix trivial
noncomputable def f_wmarkJobS_s2 (x0 : Int) (x1 : Int) (x2 : (List (Int × Int))) : AS := ⟨[(0, .a (.sl 0)), (1, .a (.v (.int .i64 x0))), (5, .a (.v (.int .i64 x1)))], [(0, some ⟨true, .arr (.st [(.i .i8), (.i .u16)]) x2⟩)], 1⟩
noncomputable def l_wmarkJobS (r : (Int × (List (Int × Int)))) : List A := [.v (.int .i64 r.1), .lst (.st [(.i .i8), (.i .u16)]) r.2]
theorem f_wmarkJobS_step2 (x0 : Int) (x1 : Int) (x2 : (List (Int × Int))) (r : List A) (h : (cond (decide (x1 < ((List.length x2 : Nat) : Int))) (cond (inB x1 (List.length x2)) (cond (inB x1 (List.length (List.set x2 (Int.toNat x1) ((IntKind.wrap .i8 x0), (List.getD x2 (Int.toNat x1) ((0, 0) : (Int × Int))).2)))) (f_wmarkJobS_L r 2 (f_wmarkJobS_s2 (IntKind.wrap .i64 ((IntKind.wrap .i64 (x0 + 1)) + 1)) (IntKind.wrap .i64 (x1 + 1)) (List.set (List.set x2 (Int.toNat x1) ((IntKind.wrap .i8 x0), (List.getD x2 (Int.toNat x1) ((0, 0) : (Int × Int))).2)) (Int.toNat x1) ((List.getD (List.set x2 (Int.toNat x1) ((IntKind.wrap .i8 x0), (List.getD x2 (Int.toNat x1) ((0, 0) : (Int × Int))).2)) (Int.toNat x1) ((0, 0) : (Int × Int))).1, (IntKind.wrap .u16 (IntKind.wrap .i64 (x0 + 1))))))) none) none) (some [.v (.int .i64 x0), .lst (.st [(.i .i8), (.i .u16)]) x2])) = some r) : f_wmarkJobS_L r 2 (f_wmarkJobS_s2 x0 x1 x2) = some r :=
  step_of' h (by kernel_rfl)
noncomputable def f_wmarkJobS_n2 (x0 : Int) (x1 : Int) (x2 : (List (Int × Int))) : Option ((Int × Int × (List (Int × Int))) ⊕ (Int × (List (Int × Int)))) := (cond (decide (x1 < ((List.length x2 : Nat) : Int))) (cond (inB x1 (List.length x2)) (cond (inB x1 (List.length (List.set x2 (Int.toNat x1) ((IntKind.wrap .i8 x0), (List.getD x2 (Int.toNat x1) ((0, 0) : (Int × Int))).2)))) (some (Sum.inl ((IntKind.wrap .i64 ((IntKind.wrap .i64 (x0 + 1)) + 1)), (IntKind.wrap .i64 (x1 + 1)), (List.set (List.set x2 (Int.toNat x1) ((IntKind.wrap .i8 x0), (List.getD x2 (Int.toNat x1) ((0, 0) : (Int × Int))).2)) (Int.toNat x1) ((List.getD (List.set x2 (Int.toNat x1) ((IntKind.wrap .i8 x0), (List.getD x2 (Int.toNat x1) ((0, 0) : (Int × Int))).2)) (Int.toNat x1) ((0, 0) : (Int × Int))).1, (IntKind.wrap .u16 (IntKind.wrap .i64 (x0 + 1)))))))) none) none) (some (Sum.inr (x0, x2))))
noncomputable def f_wmarkJobS_run2 (x : (Int × Int × (List (Int × Int)))) : Option (Int × (List (Int × Int))) := iter (fun x => f_wmarkJobS_n2 x.1 x.2.1 x.2.2) FU x
noncomputable def f_wmarkJobS_G2 (r : List A) (x : (Int × Int × (List (Int × Int)))) : Prop := f_wmarkJobS_L r 2 (f_wmarkJobS_s2 x.1 x.2.1 x.2.2) = some r
noncomputable def f_wmarkJobS_S2 (r : List A) : (Int × (List (Int × Int))) → Prop := fun v => r = l_wmarkJobS v
theorem f_wmarkJobS_go2 (r : List A) : ∀ x, sem (f_wmarkJobS_S2 r) (f_wmarkJobS_run2 x) → f_wmarkJobS_G2 r x :=
  fun x => iter_sound (step := fun x => f_wmarkJobS_n2 x.1 x.2.1 x.2.2) (fun x h => by
    unfold f_wmarkJobS_n2 at h
    exact f_wmarkJobS_step2 x.1 x.2.1 x.2.2 r ((sem_cond h (fun h => (sem_cond h (fun h => (sem_cond h (fun h => sem_got h fun q => q) (fun h => sem_none h))) (fun h => sem_none h))) (fun h => sem_got h fun q => some_eq q)))) FU x
noncomputable def s_wmarkJobS (a0 : (List (Int × Int))) (a1 : Int) : Option (Int × (List (Int × Int))) := (f_wmarkJobS_run2 (a1, 0, a0))
theorem f_wmarkJobS_top (a0 : (List (Int × Int))) (a1 : Int) (r : List A) : ev f_wmarkJobS_X (lpc (cnOfU f_wmarkJobS_LV) (f_wmarkJobS_L r)) f_wmarkJobS_c (K0U TT f_wmarkJobS_rv) (enterU (.st [(.i .i8), (.i .u16)]) a0 [.v (.int .i64 a1)]) = (f_wmarkJobS_L r 2 (f_wmarkJobS_s2 a1 0 a0)) := by kernel_rfl
theorem s_wmarkJobS_ok (a0 : (List (Int × Int))) (a1 : Int) (v : (Int × (List (Int × Int)))) (h : s_wmarkJobS a0 a1 = some v) : (f_wmarkJobS_L (l_wmarkJobS v) 2 (f_wmarkJobS_s2 a1 0 a0)) = some (l_wmarkJobS v) := by
  unfold s_wmarkJobS at h
  have go : ∀ r, sem (fun v => r = l_wmarkJobS v) ((f_wmarkJobS_run2 (a1, 0, a0))) → (f_wmarkJobS_L r 2 (f_wmarkJobS_s2 a1 0 a0)) = some r := fun r h => f_wmarkJobS_go2 r _ h
  exact go (l_wmarkJobS v) ⟨v, h, rfl⟩
noncomputable def u_wmarkJobS : UCon := fun e l rest => match e, l, rest with
  | (.st [(.i .i8), (.i .u16)]), a0, [.v (.int .i64 a1)] => ⟨(Int × (List (Int × Int))), s_wmarkJobS a0 a1, fun r => some (.v (.int .i64 r.1)), fun r => r.2⟩
  | _, _, _ => UCall.fail
theorem f_wmarkJobS_sound : USound Try.prog 36 u_wmarkJobS := by
  refine sound_goodU f_wmarkJobS_ctx f_wmarkJobS_LV 2 Try.func36 (c := f_wmarkJobS_c) (by kernel_rfl) (rv := f_wmarkJobS_rv) (by kernel_rfl) (by kernel_rfl) (by kernel_rfl) (by kernel_rfl) fun e l rest => ?_
  unfold u_wmarkJobS
  split
  · rename_i a0 a1; intro v h; exact ⟨rfl, (f_wmarkJobS_top a0 a1 _).trans (s_wmarkJobS_ok a0 a1 v h)⟩
  · intro v h; cases h

/-! ### function 159: loop.example/g01322/impl.isSize -/
noncomputable def f_iisSize_c : Code := match Try.f159.body with | some c => c | none => .skip
noncomputable def f_iisSize_X : Ctx := ⟨TT, phiOf [(92, c_iwithin)], noPsi, noXi⟩
def f_iisSize_LV : List (Nat × Keep) := []
def f_iisSize_rv : List ResultVar := [.tmp 4]
noncomputable def f_iisSize_L (r : List A) : Nat → AS → Option (List A) := L f_iisSize_X (cnOf f_iisSize_LV) f_iisSize_c (K0 TT f_iisSize_rv) r
theorem f_iisSize_ctx : CtxOK Try.prog f_iisSize_X := ctx_of tab mix ⟨⟨Try.call92, f_iwithin_sound⟩, trivial⟩
noncomputable def s_iisSize (a0 : Int) (a1 : Int) : Bool := (cond (s_iwithin a0 1 12) (s_iwithin a1 1 12) false)
theorem f_iisSize_top (a0 : Int) (a1 : Int) (r : List A) : ev f_iisSize_X (lpc (cnOf f_iisSize_LV) (f_iisSize_L r)) f_iisSize_c (K0 TT f_iisSize_rv) (enter [.v (.int .i64 a0), .v (.int .i64 a1)]) = (cond (s_iwithin a0 1 12) (some [.v (.bool (s_iwithin a1 1 12))]) (some [.v (.bool false)])) := by kernel_rfl
noncomputable def l_iisSize (r : Bool) : List A := [.v (.bool r)]
theorem s_iisSize_ok (a0 : Int) (a1 : Int) : (cond (s_iwithin a0 1 12) (some [.v (.bool (s_iwithin a1 1 12))]) (some [.v (.bool false)])) = some (l_iisSize (s_iisSize a0 a1)) := by
  unfold s_iisSize
  exact (cond_app (fun x => some (l_iisSize x)) rfl rfl)
noncomputable def c_iisSize : List A → ACall
  | [.v (.int .i64 a0), .v (.int .i64 a1)] => ⟨Bool, some (s_iisSize a0 a1), fun r => .one (.v (.bool r))⟩
  | _ => ACall.fail
theorem f_iisSize_sound : Sound Try.prog 159 c_iisSize := by
  refine sound_good f_iisSize_ctx f_iisSize_LV 2 Try.func159 (c := f_iisSize_c) (by kernel_rfl) (rv := f_iisSize_rv) (by kernel_rfl) (by kernel_rfl) (by kernel_rfl) (by kernel_rfl) fun rs => ?_
  unfold c_iisSize
  split
  · rename_i a0 a1; intro v h; cases h; exact ⟨rfl, l_iisSize (s_iisSize a0 a1), rfl, (f_iisSize_top a0 a1 _).trans (s_iisSize_ok a0 a1)⟩
  · intro v h; cases h

/-! ### function 91: loop.example/g01322/impl.codeOf -/
noncomputable def f_icodeOf_c : Code := match Try.f91.body with | some c => c | none => .skip
noncomputable def f_icodeOf_X : Ctx := ⟨TT, phiOf [], noPsi, noXi⟩
def f_icodeOf_LV : List (Nat × Keep) := []
def f_icodeOf_rv : List ResultVar := [.tmp 4]
noncomputable def f_icodeOf_L (r : List A) : Nat → AS → Option (List A) := L f_icodeOf_X (cnOf f_icodeOf_LV) f_icodeOf_c (K0 TT f_icodeOf_rv) r
theorem f_icodeOf_ctx : CtxOK Try.prog f_icodeOf_X := ctx_of tab mix trivial
noncomputable def s_icodeOf (a0 : Bool) (a1 : Bool) : Int := (cond (!a0) 1 (cond (!a1) 2 0))
theorem f_icodeOf_top (a0 : Bool) (a1 : Bool) (r : List A) : ev f_icodeOf_X (lpc (cnOf f_icodeOf_LV) (f_icodeOf_L r)) f_icodeOf_c (K0 TT f_icodeOf_rv) (enter [.v (.bool a0), .v (.bool a1)]) = (cond (!a0) (some [.v (.int .i64 1)]) (cond (!a1) (some [.v (.int .i64 2)]) (some [.v (.int .i64 0)]))) := by kernel_rfl
noncomputable def l_icodeOf (r : Int) : List A := [.v (.int .i64 r)]
theorem s_icodeOf_ok (a0 : Bool) (a1 : Bool) : (cond (!a0) (some [.v (.int .i64 1)]) (cond (!a1) (some [.v (.int .i64 2)]) (some [.v (.int .i64 0)]))) = some (l_icodeOf (s_icodeOf a0 a1)) := by
  unfold s_icodeOf
  exact (cond_app (fun x => some (l_icodeOf x)) rfl (cond_app (fun x => some (l_icodeOf x)) rfl rfl))
noncomputable def c_icodeOf : List A → ACall
  | [.v (.bool a0), .v (.bool a1)] => ⟨Int, some (s_icodeOf a0 a1), fun r => .one (.v (.int .i64 r))⟩
  | _ => ACall.fail
theorem f_icodeOf_sound : Sound Try.prog 91 c_icodeOf := by
  refine sound_good f_icodeOf_ctx f_icodeOf_LV 2 Try.func91 (c := f_icodeOf_c) (by kernel_rfl) (rv := f_icodeOf_rv) (by kernel_rfl) (by kernel_rfl) (by kernel_rfl) (by kernel_rfl) fun rs => ?_
  unfold c_icodeOf
  split
  · rename_i a0 a1; intro v h; cases h; exact ⟨rfl, l_icodeOf (s_icodeOf a0 a1), rfl, (f_icodeOf_top a0 a1 _).trans (s_icodeOf_ok a0 a1)⟩
  · intro v h; cases h

/-! ### function 140: loop.example/g01322/laws.toByteA144 -/
noncomputable def f_wtoByteA144_c : Code := match Try.f140.body with | some c => c | none => .skip
noncomputable def f_wtoByteA144_X : Ctx := ⟨TT, phiOf [], noPsi, noXi⟩
def f_wtoByteA144_LV : List (Nat × Keep) := [(3, ([1, 2, 3, 4], [], []))]
def f_wtoByteA144_rv : List ResultVar := [.cell 2 25]
noncomputable def f_wtoByteA144_L (r : List A) : Nat → AS → Option (List A) := L f_wtoByteA144_X (cnOf f_wtoByteA144_LV) f_wtoByteA144_c (K0 TT f_wtoByteA144_rv) r
theorem f_wtoByteA144_ctx : CtxOK Try.prog f_wtoByteA144_X := ctx_of tab mix trivial
noncomputable def f_wtoByteA144_s3 (x0 : Int) (x1 : (Nat → Int)) (x2 : (Nat → Int)) (x3 : (Nat → Int)) : AS := ⟨[(1, .a (.ptr 0 [] (0))), (2, .a (.ptr 1 [] (0))), (3, .a (.ptr 2 [] (0))), (4, .a (.v (.int .i64 x0)))], [(0, some ⟨true, .box (.fa 144 .u8 x1)⟩), (1, some ⟨true, .box (.fa 144 .u8 x2)⟩), (2, some ⟨true, .box (.fa 144 .u8 x3)⟩)], 3⟩
theorem f_wtoByteA144_step3 (x0 : Int) (x1 : (Nat → Int)) (x2 : (Nat → Int)) (x3 : (Nat → Int)) (r : List A) (h : (cond (decide (x0 < 144)) (cond (inB x0 144) (cond (inB x0 144) (f_wtoByteA144_L r 3 (f_wtoByteA144_s3 (IntKind.wrap .i64 (x0 + 1)) x1 x2 (upd x3 (Int.toNat x0) (x1 (Int.toNat x0))))) none) none) (some [.fa 144 .u8 x3])) = some r) : f_wtoByteA144_L r 3 (f_wtoByteA144_s3 x0 x1 x2 x3) = some r :=
  step_of' h (by kernel_rfl)
noncomputable def s_wtoByteA144 (a0 : (Nat → Int)) : (Nat → Int) := fun j => cond (Nat.blt j 144) (a0 j) 0
theorem f_wtoByteA144_top (a0 : (Nat → Int)) (r : List A) : ev f_wtoByteA144_X (lpc (cnOf f_wtoByteA144_LV) (f_wtoByteA144_L r)) f_wtoByteA144_c (K0 TT f_wtoByteA144_rv) (enter [.fa 144 .u8 a0]) = (f_wtoByteA144_L r 3 (f_wtoByteA144_s3 0 a0 zF zF)) := by kernel_rfl
noncomputable def l_wtoByteA144 (r : (Nat → Int)) : List A := [.fa 144 .u8 r]
theorem f_wtoByteA144_loop (a0 z : Nat → Int) : ∀ (k i : Nat) (g : Nat → Int), i + k = 144 → f_wtoByteA144_L (l_wtoByteA144 (fun j => cond (Nat.blt j 144 && !Nat.blt j i) (a0 j) (g j))) 3 (f_wtoByteA144_s3 i a0 z g) = some (l_wtoByteA144 (fun j => cond (Nat.blt j 144 && !Nat.blt j i) (a0 j) (g j)))
  | 0, i, g, h => by
    obtain rfl : i = 144 := h
    apply f_wtoByteA144_step3
    rw [show decide (((144 : Nat) : Int) < 144) = false from rfl, cond_false]
    have : (fun j => cond (Nat.blt j 144 && !Nat.blt j 144) (a0 j) (g j)) = g := by
      funext j; cases Nat.blt j 144 <;> rfl
    rw [this]; rfl
  | k + 1, i, g, h => by
    have hi : i < 144 := by omega
    apply f_wtoByteA144_step3
    rw [show decide ((i : Int) < 144) = true from lt_true (n := 144) hi, inB_nat hi, succ64 (by omega), toNat_nat]
    simp only [cond_true]
    have ih := f_wtoByteA144_loop a0 z k (i + 1) (upd g i (a0 i)) (by omega)
    have e : (fun j => cond (Nat.blt j 144 && !Nat.blt j (i + 1)) (a0 j) (upd g i (a0 i) j)) = fun j => cond (Nat.blt j 144 && !Nat.blt j i) (a0 j) (g j) := by
      funext j
      unfold upd
      by_cases hj : j = i
      · subst hj
        have h1 : Nat.blt j 144 = true := blt_true hi
        have h2 : Nat.blt j j = false := blt_false (Nat.le_refl j)
        have h3 : Nat.blt j (j + 1) = true := blt_true (Nat.lt_succ_self j)
        simp [h1, h2, h3]
      · have h2 : Nat.blt j (i + 1) = Nat.blt j i := by
          by_cases h : j < i
          · have a : Nat.blt j i = true := blt_true h
            have b : Nat.blt j (i + 1) = true := blt_true (by omega)
            rw [a, b]
          · have a : Nat.blt j i = false := blt_false (by omega)
            have b : Nat.blt j (i + 1) = false := blt_false (by omega)
            rw [a, b]
        have h3 : Nat.beq j i = false := beqF hj
        rw [h2, h3, cond_false]
    rw [e] at ih
    exact ih
theorem s_wtoByteA144_ok (a0 : (Nat → Int)) : (f_wtoByteA144_L (l_wtoByteA144 (s_wtoByteA144 a0)) 3 (f_wtoByteA144_s3 0 a0 zF zF)) = some (l_wtoByteA144 (s_wtoByteA144 a0)) := by
  have h := f_wtoByteA144_loop a0 zF 144 0 zF rfl
  have e : (fun j => cond (Nat.blt j 144 && !Nat.blt j 0) (a0 j) (zF j)) = s_wtoByteA144 a0 := by
    funext j
    have : Nat.blt j 0 = false := blt_false (Nat.zero_le j)
    rw [this]; unfold s_wtoByteA144 zF; simp
  rw [e] at h
  exact h
noncomputable def c_wtoByteA144 : List A → ACall
  | [.fa 144 .u8 a0] => ⟨(Nat → Int), some (s_wtoByteA144 a0), fun r => .one (.fa 144 .u8 r)⟩
  | _ => ACall.fail
theorem f_wtoByteA144_sound : Sound Try.prog 140 c_wtoByteA144 := by
  refine sound_good f_wtoByteA144_ctx f_wtoByteA144_LV 1 Try.func140 (c := f_wtoByteA144_c) (by kernel_rfl) (rv := f_wtoByteA144_rv) (by kernel_rfl) (by kernel_rfl) (by kernel_rfl) (by kernel_rfl) fun rs => ?_
  unfold c_wtoByteA144
  split
  · rename_i a0; intro v h; cases h; exact ⟨rfl, l_wtoByteA144 (s_wtoByteA144 a0), rfl, (f_wtoByteA144_top a0 _).trans (s_wtoByteA144_ok a0)⟩
  · intro v h; cases h
noncomputable def p47 (w h : Int) (f : Nat → Int) (j : Nat) : Bool := !(decide (f j ≥ 16)) && (s_sl01Is w h f j || !(f j != 0))

/-! ### function 88: loop.example/g01322/spec.l01Ok -/
noncomputable def f_sl01Ok_c : Code := match Try.f88.body with | some c => c | none => .skip
noncomputable def f_sl01Ok_X : Ctx := ⟨TT, phiOf [(93, c_sl00In), (94, c_sl01Is)], noPsi, noXi⟩
def f_sl01Ok_LV : List (Nat × Keep) := [(4, ([0, 3], [], []))]
def f_sl01Ok_rv : List ResultVar := [.tmp 2]
noncomputable def f_sl01Ok_L (r : List A) : Nat → AS → Option (List A) := L f_sl01Ok_X (cnOf f_sl01Ok_LV) f_sl01Ok_c (K0 TT f_sl01Ok_rv) r
theorem f_sl01Ok_ctx : CtxOK Try.prog f_sl01Ok_X := ctx_of tab mix ⟨⟨Try.call93, f_sl00In_sound⟩, ⟨Try.call94, f_sl01Is_sound⟩, trivial⟩
noncomputable def f_sl01Ok_s4 (x0 : Int) (x1 : Int) (x2 : Int) (x3 : (Nat → Int)) : AS := ⟨[(0, .a (.ptr 0 [] (0))), (3, .a (.v (.int .i64 x0)))], [(0, some ⟨false, .box (.rc [.v (.int .i8 x1), .v (.int .i8 x2), .fa 144 .u8 x3])⟩)], 1⟩
theorem f_sl01Ok_step4 (x0 : Int) (x1 : Int) (x2 : Int) (x3 : (Nat → Int)) (r : List A) (h : (cond (decide (x0 < 144)) (cond (inB x0 144) (cond (decide ((x3 (Int.toNat x0)) ≥ 16)) (some [.v (.bool false)]) (cond (!(s_sl01Is x1 x2 x3 x0)) (cond (inB x0 144) (cond ((x3 (Int.toNat x0)) != 0) (some [.v (.bool false)]) (f_sl01Ok_L r 4 (f_sl01Ok_s4 (IntKind.wrap .i64 (x0 + 1)) x1 x2 x3))) none) (f_sl01Ok_L r 4 (f_sl01Ok_s4 (IntKind.wrap .i64 (x0 + 1)) x1 x2 x3)))) none) (some [.v (.bool true)])) = some r) : f_sl01Ok_L r 4 (f_sl01Ok_s4 x0 x1 x2 x3) = some r :=
  step_of' h (by kernel_rfl)
noncomputable def s_sl01Ok (a0 : Int) (a1 : Int) (a2 : (Nat → Int)) : Bool := s_sl00In (IntKind.wrap .i64 a0) 1 12 && (s_sl00In (IntKind.wrap .i64 a1) 1 12 && allN (p47 a0 a1 a2) 0 144)
theorem f_sl01Ok_top (a0 : Int) (a1 : Int) (a2 : (Nat → Int)) (r : List A) : ev f_sl01Ok_X (lpc (cnOf f_sl01Ok_LV) (f_sl01Ok_L r)) f_sl01Ok_c (K0 TT f_sl01Ok_rv) (enter [.ref (.rc [.v (.int .i8 a0), .v (.int .i8 a1), .fa 144 .u8 a2])]) = (cond (!(s_sl00In (IntKind.wrap .i64 a0) 1 12)) (some [.v (.bool false)]) (cond (!(s_sl00In (IntKind.wrap .i64 a1) 1 12)) (some [.v (.bool false)]) (f_sl01Ok_L r 4 (f_sl01Ok_s4 0 a0 a1 a2)))) := by kernel_rfl
noncomputable def l_sl01Ok (r : Bool) : List A := [.v (.bool r)]
theorem f_sl01Ok_loop (w h : Int) (f : Nat → Int) : ∀ (k i : Nat), i + k = 144 → f_sl01Ok_L (l_sl01Ok (allN (p47 w h f) i k)) 4 (f_sl01Ok_s4 i w h f) = some (l_sl01Ok (allN (p47 w h f) i k))
  | 0, i, hi => by
    obtain rfl : i = 144 := hi
    apply f_sl01Ok_step4
    rw [show decide (((144 : Nat) : Int) < 144) = false from rfl, cond_false]
    rfl
  | k + 1, i, hik => by
    have hi : i < 144 := by omega
    have ih := f_sl01Ok_loop w h f k (i + 1) (by omega)
    apply f_sl01Ok_step4
    rw [show decide ((i : Int) < 144) = true from lt_true (n := 144) hi, inB_nat hi, succ64 (by omega), toNat_nat]
    simp only [cond_true, allN, p47]
    cases h1 : decide (f i ≥ 16) <;> cases h2 : s_sl01Is w h f i <;> cases h3 : (f i != 0) <;> first | rfl | exact ih
theorem s_sl01Ok_ok (a0 : Int) (a1 : Int) (a2 : (Nat → Int)) : (cond (!(s_sl00In (IntKind.wrap .i64 a0) 1 12)) (some [.v (.bool false)]) (cond (!(s_sl00In (IntKind.wrap .i64 a1) 1 12)) (some [.v (.bool false)]) (f_sl01Ok_L (l_sl01Ok (s_sl01Ok a0 a1 a2)) 4 (f_sl01Ok_s4 0 a0 a1 a2)))) = some (l_sl01Ok (s_sl01Ok a0 a1 a2)) := by
  have h := f_sl01Ok_loop a0 a1 a2 144 0 rfl
  unfold s_sl01Ok
  cases s_sl00In (IntKind.wrap .i64 a0) 1 12 <;> cases s_sl00In (IntKind.wrap .i64 a1) 1 12 <;> first | rfl | exact h
noncomputable def c_sl01Ok : List A → ACall
  | [.ref (.rc [.v (.int .i8 a0), .v (.int .i8 a1), .fa 144 .u8 a2])] => ⟨Bool, some (s_sl01Ok a0 a1 a2), fun r => .one (.v (.bool r))⟩
  | _ => ACall.fail
theorem f_sl01Ok_sound : Sound Try.prog 88 c_sl01Ok := by
  refine sound_good f_sl01Ok_ctx f_sl01Ok_LV 1 Try.func88 (c := f_sl01Ok_c) (by kernel_rfl) (rv := f_sl01Ok_rv) (by kernel_rfl) (by kernel_rfl) (by kernel_rfl) (by kernel_rfl) fun rs => ?_
  unfold c_sl01Ok
  split
  · rename_i a0 a1 a2; intro v h; cases h; exact ⟨rfl, l_sl01Ok (s_sl01Ok a0 a1 a2), rfl, (f_sl01Ok_top a0 a1 a2 _).trans (s_sl01Ok_ok a0 a1 a2)⟩
  · intro v h; cases h
noncomputable def p53 (w h : Int) (f : Nat → Int) (j : Nat) : Bool := (s_iPicture_has w h f (Int.tmod j 12) (IntKind.wrap .i64 (Int.tdiv j 12)) || !(f j != 0)) && !(decide (f j ≥ 16))

/-! ### function 86: loop.example/g01322/impl.ValidPicture -/
noncomputable def f_iValidPicture_c : Code := match Try.f86.body with | some c => c | none => .skip
noncomputable def f_iValidPicture_X : Ctx := ⟨TT, phiOf [(159, c_iisSize), (160, c_iPicture_has)], noPsi, noXi⟩
def f_iValidPicture_LV : List (Nat × Keep) := [(4, ([1, 14, 15], [], []))]
def f_iValidPicture_rv : List ResultVar := [.tmp 2]
noncomputable def f_iValidPicture_L (r : List A) : Nat → AS → Option (List A) := L f_iValidPicture_X (cnOf f_iValidPicture_LV) f_iValidPicture_c (K0 TT f_iValidPicture_rv) r
theorem f_iValidPicture_ctx : CtxOK Try.prog f_iValidPicture_X := ctx_of tab mix ⟨⟨Try.call159, f_iisSize_sound⟩, ⟨Try.call160, f_iPicture_has_sound⟩, trivial⟩
noncomputable def f_iValidPicture_s4 (x0 : (Nat → Int)) (x1 : Int) (x2 : Int) (x3 : Int) (x4 : (Nat → Int)) : AS := ⟨[(1, .a (.ptr 0 [] (0))), (14, .a (.fa 144 .u8 x0)), (15, .a (.v (.int .i64 x1)))], [(0, some ⟨true, .box (.rc [.v (.int .i8 x2), .v (.int .i8 x3), .fa 144 .u8 x4])⟩)], 1⟩
theorem f_iValidPicture_step4 (x0 : (Nat → Int)) (x1 : Int) (x2 : Int) (x3 : Int) (x4 : (Nat → Int)) (r : List A) (h : (cond (decide (x1 < 144)) (cond (inB x1 144) (cond (!(s_iPicture_has x2 x3 x4 (Int.tmod x1 12) (IntKind.wrap .i64 (Int.tdiv x1 12)))) (cond ((x0 (Int.toNat x1)) != 0) (some [.v (.bool false)]) (cond (decide ((x0 (Int.toNat x1)) ≥ 16)) (some [.v (.bool false)]) (f_iValidPicture_L r 4 (f_iValidPicture_s4 x0 (IntKind.wrap .i64 (x1 + 1)) x2 x3 x4)))) (cond (decide ((x0 (Int.toNat x1)) ≥ 16)) (some [.v (.bool false)]) (f_iValidPicture_L r 4 (f_iValidPicture_s4 x0 (IntKind.wrap .i64 (x1 + 1)) x2 x3 x4)))) none) (some [.v (.bool true)])) = some r) : f_iValidPicture_L r 4 (f_iValidPicture_s4 x0 x1 x2 x3 x4) = some r :=
  step_of' h (by kernel_rfl)
noncomputable def s_iValidPicture (a0 : Int) (a1 : Int) (a2 : (Nat → Int)) : Bool := s_iisSize (IntKind.wrap .i64 a0) (IntKind.wrap .i64 a1) && allN (p53 a0 a1 a2) 0 144
theorem f_iValidPicture_top (a0 : Int) (a1 : Int) (a2 : (Nat → Int)) (r : List A) : ev f_iValidPicture_X (lpc (cnOf f_iValidPicture_LV) (f_iValidPicture_L r)) f_iValidPicture_c (K0 TT f_iValidPicture_rv) (enter [.rc [.v (.int .i8 a0), .v (.int .i8 a1), .fa 144 .u8 a2]]) = (cond (!(s_iisSize (IntKind.wrap .i64 a0) (IntKind.wrap .i64 a1))) (some [.v (.bool false)]) (f_iValidPicture_L r 4 (f_iValidPicture_s4 a2 0 a0 a1 a2))) := by kernel_rfl
noncomputable def l_iValidPicture (r : Bool) : List A := [.v (.bool r)]
theorem f_iValidPicture_loop (w h : Int) (f : Nat → Int) : ∀ (k i : Nat), i + k = 144 → f_iValidPicture_L (l_iValidPicture (allN (p53 w h f) i k)) 4 (f_iValidPicture_s4 f i w h f) = some (l_iValidPicture (allN (p53 w h f) i k))
  | 0, i, hi => by
    obtain rfl : i = 144 := hi
    apply f_iValidPicture_step4
    rw [show decide (((144 : Nat) : Int) < 144) = false from rfl, cond_false]
    rfl
  | k + 1, i, hik => by
    have hi : i < 144 := by omega
    have ih := f_iValidPicture_loop w h f k (i + 1) (by omega)
    apply f_iValidPicture_step4
    rw [show decide ((i : Int) < 144) = true from lt_true (n := 144) hi, inB_nat hi, succ64 (by omega), toNat_nat]
    simp only [cond_true, allN, p53]
    cases h1 : decide (f i ≥ 16) <;> cases h2 : s_iPicture_has w h f (Int.tmod i 12) (IntKind.wrap .i64 (Int.tdiv i 12)) <;> cases h3 : (f i != 0) <;> first | rfl | exact ih
theorem s_iValidPicture_ok (a0 : Int) (a1 : Int) (a2 : (Nat → Int)) : (cond (!(s_iisSize (IntKind.wrap .i64 a0) (IntKind.wrap .i64 a1))) (some [.v (.bool false)]) (f_iValidPicture_L (l_iValidPicture (s_iValidPicture a0 a1 a2)) 4 (f_iValidPicture_s4 a2 0 a0 a1 a2))) = some (l_iValidPicture (s_iValidPicture a0 a1 a2)) := by
  have h := f_iValidPicture_loop a0 a1 a2 144 0 rfl
  unfold s_iValidPicture
  cases s_iisSize (IntKind.wrap .i64 a0) (IntKind.wrap .i64 a1) <;> first | rfl | exact h
noncomputable def c_iValidPicture : List A → ACall
  | [.rc [.v (.int .i8 a0), .v (.int .i8 a1), .fa 144 .u8 a2]] => ⟨Bool, some (s_iValidPicture a0 a1 a2), fun r => .one (.v (.bool r))⟩
  | _ => ACall.fail
theorem f_iValidPicture_sound : Sound Try.prog 86 c_iValidPicture := by
  refine sound_good f_iValidPicture_ctx f_iValidPicture_LV 1 Try.func86 (c := f_iValidPicture_c) (by kernel_rfl) (rv := f_iValidPicture_rv) (by kernel_rfl) (by kernel_rfl) (by kernel_rfl) (by kernel_rfl) fun rs => ?_
  unfold c_iValidPicture
  split
  · rename_i a0 a1 a2; intro v h; cases h; exact ⟨rfl, l_iValidPicture (s_iValidPicture a0 a1 a2), rfl, (f_iValidPicture_top a0 a1 a2 _).trans (s_iValidPicture_ok a0 a1 a2)⟩
  · intro v h; cases h

/-! ### function 65: loop.example/g01322/laws.toPicture -/
noncomputable def f_wtoPicture_c : Code := match Try.f65.body with | some c => c | none => .skip
noncomputable def f_wtoPicture_X : Ctx := ⟨TT, phiOf [(140, c_wtoByteA144)], noPsi, noXi⟩
def f_wtoPicture_LV : List (Nat × Keep) := []
def f_wtoPicture_rv : List ResultVar := [.cell 2 27]
noncomputable def f_wtoPicture_L (r : List A) : Nat → AS → Option (List A) := L f_wtoPicture_X (cnOf f_wtoPicture_LV) f_wtoPicture_c (K0 TT f_wtoPicture_rv) r
theorem f_wtoPicture_ctx : CtxOK Try.prog f_wtoPicture_X := ctx_of tab mix ⟨⟨Try.call140, f_wtoByteA144_sound⟩, trivial⟩
noncomputable def s_wtoPicture (a0 : Int) (a1 : Int) (a2 : (Nat → Int)) : (Int × Int × (Nat → Int)) := (a0, a1, (s_wtoByteA144 a2))
theorem f_wtoPicture_top (a0 : Int) (a1 : Int) (a2 : (Nat → Int)) (r : List A) : ev f_wtoPicture_X (lpc (cnOf f_wtoPicture_LV) (f_wtoPicture_L r)) f_wtoPicture_c (K0 TT f_wtoPicture_rv) (enter [.rc [.v (.int .i8 a0), .v (.int .i8 a1), .fa 144 .u8 a2]]) = (some [.rc [.v (.int .i8 a0), .v (.int .i8 a1), .fa 144 .u8 (s_wtoByteA144 a2)]]) := by kernel_rfl
noncomputable def l_wtoPicture (r : (Int × Int × (Nat → Int))) : List A := [.rc [.v (.int .i8 r.1), .v (.int .i8 r.2.1), .fa 144 .u8 r.2.2]]
theorem s_wtoPicture_ok (a0 : Int) (a1 : Int) (a2 : (Nat → Int)) : (some [.rc [.v (.int .i8 a0), .v (.int .i8 a1), .fa 144 .u8 (s_wtoByteA144 a2)]]) = some (l_wtoPicture (s_wtoPicture a0 a1 a2)) := by
  unfold s_wtoPicture
  exact rfl
noncomputable def c_wtoPicture : List A → ACall
  | [.rc [.v (.int .i8 a0), .v (.int .i8 a1), .fa 144 .u8 a2]] => ⟨(Int × Int × (Nat → Int)), some (s_wtoPicture a0 a1 a2), fun r => .one (.rc [.v (.int .i8 r.1), .v (.int .i8 r.2.1), .fa 144 .u8 r.2.2])⟩
  | _ => ACall.fail
theorem f_wtoPicture_sound : Sound Try.prog 65 c_wtoPicture := by
  refine sound_good f_wtoPicture_ctx f_wtoPicture_LV 1 Try.func65 (c := f_wtoPicture_c) (by kernel_rfl) (rv := f_wtoPicture_rv) (by kernel_rfl) (by kernel_rfl) (by kernel_rfl) (by kernel_rfl) fun rs => ?_
  unfold c_wtoPicture
  split
  · rename_i a0 a1 a2; intro v h; cases h; exact ⟨rfl, l_wtoPicture (s_wtoPicture a0 a1 a2), rfl, (f_wtoPicture_top a0 a1 a2 _).trans (s_wtoPicture_ok a0 a1 a2)⟩
  · intro v h; cases h

/-! ### function 67: loop.example/g01322/laws.heldJobS -/
noncomputable def f_wheldJobS_c : Code := match Try.f67.body with | some c => c | none => .skip
noncomputable def f_wheldJobS_X : Ctx := ⟨TT, phiOf [], noPsi, noXi⟩
def f_wheldJobS_LV : List (Nat × Keep) := [(2, ([0, 1, 5], [], []))]
def f_wheldJobS_rv : List ResultVar := [.tmp 4]
noncomputable def f_wheldJobS_L (r : List A) : Nat → AS → Option (List A) := L f_wheldJobS_X (cnOf f_wheldJobS_LV) f_wheldJobS_c (K0 TT f_wheldJobS_rv) r
theorem f_wheldJobS_ctx : CtxOK Try.prog f_wheldJobS_X := ctx_of tab mix trivial
noncomputable def f_wheldJobS_s2 (x0 : Int) (x1 : Int) (x2 : (List (Int × Int))) : AS := ⟨[(0, .a (.sl 0)), (1, .a (.v (.int .i64 x0))), (5, .a (.v (.int .i64 x1)))], [(0, some ⟨false, .arr (.st [(.i .i8), (.i .u16)]) x2⟩)], 1⟩
noncomputable def l_wheldJobS (r : Int) : List A := [.v (.int .i64 r)]
theorem f_wheldJobS_step2 (x0 : Int) (x1 : Int) (x2 : (List (Int × Int))) (r : List A) (h : (cond (decide (x1 < ((List.length x2 : Nat) : Int))) (cond (inB x1 (List.length x2)) (cond ((List.getD x2 (Int.toNat x1) ((0, 0) : (Int × Int))).1 != (IntKind.wrap .i8 x0)) (some [.v (.int .i64 (-1))]) (cond (inB x1 (List.length x2)) (cond ((List.getD x2 (Int.toNat x1) ((0, 0) : (Int × Int))).2 != (IntKind.wrap .u16 (IntKind.wrap .i64 (x0 + 1)))) (some [.v (.int .i64 (-1))]) (f_wheldJobS_L r 2 (f_wheldJobS_s2 (IntKind.wrap .i64 ((IntKind.wrap .i64 (x0 + 1)) + 1)) (IntKind.wrap .i64 (x1 + 1)) x2))) none)) none) (some [.v (.int .i64 x0)])) = some r) : f_wheldJobS_L r 2 (f_wheldJobS_s2 x0 x1 x2) = some r :=
  step_of' h (by kernel_rfl)
noncomputable def f_wheldJobS_n2 (x0 : Int) (x1 : Int) (x2 : (List (Int × Int))) : Option ((Int × Int × (List (Int × Int))) ⊕ Int) := (cond (decide (x1 < ((List.length x2 : Nat) : Int))) (cond (inB x1 (List.length x2)) (cond ((List.getD x2 (Int.toNat x1) ((0, 0) : (Int × Int))).1 != (IntKind.wrap .i8 x0)) (some (Sum.inr (-1))) (cond (inB x1 (List.length x2)) (cond ((List.getD x2 (Int.toNat x1) ((0, 0) : (Int × Int))).2 != (IntKind.wrap .u16 (IntKind.wrap .i64 (x0 + 1)))) (some (Sum.inr (-1))) (some (Sum.inl ((IntKind.wrap .i64 ((IntKind.wrap .i64 (x0 + 1)) + 1)), (IntKind.wrap .i64 (x1 + 1)), x2)))) none)) none) (some (Sum.inr x0)))
noncomputable def f_wheldJobS_run2 (x : (Int × Int × (List (Int × Int)))) : Option Int := iter (fun x => f_wheldJobS_n2 x.1 x.2.1 x.2.2) FU x
noncomputable def f_wheldJobS_G2 (r : List A) (x : (Int × Int × (List (Int × Int)))) : Prop := f_wheldJobS_L r 2 (f_wheldJobS_s2 x.1 x.2.1 x.2.2) = some r
noncomputable def f_wheldJobS_S2 (r : List A) : Int → Prop := fun v => r = l_wheldJobS v
theorem f_wheldJobS_go2 (r : List A) : ∀ x, sem (f_wheldJobS_S2 r) (f_wheldJobS_run2 x) → f_wheldJobS_G2 r x :=
  fun x => iter_sound (step := fun x => f_wheldJobS_n2 x.1 x.2.1 x.2.2) (fun x h => by
    unfold f_wheldJobS_n2 at h
    exact f_wheldJobS_step2 x.1 x.2.1 x.2.2 r ((sem_cond h (fun h => (sem_cond h (fun h => (sem_cond h (fun h => sem_got h fun q => some_eq q) (fun h => (sem_cond h (fun h => (sem_cond h (fun h => sem_got h fun q => some_eq q) (fun h => sem_got h fun q => q))) (fun h => sem_none h))))) (fun h => sem_none h))) (fun h => sem_got h fun q => some_eq q)))) FU x
noncomputable def s_wheldJobS (a0 : (List (Int × Int))) (a1 : Int) : Option Int := (f_wheldJobS_run2 (a1, 0, a0))
theorem f_wheldJobS_top (a0 : (List (Int × Int))) (a1 : Int) (r : List A) : ev f_wheldJobS_X (lpc (cnOf f_wheldJobS_LV) (f_wheldJobS_L r)) f_wheldJobS_c (K0 TT f_wheldJobS_rv) (enter [.lst (.st [(.i .i8), (.i .u16)]) a0, .v (.int .i64 a1)]) = (f_wheldJobS_L r 2 (f_wheldJobS_s2 a1 0 a0)) := by kernel_rfl
theorem s_wheldJobS_ok (a0 : (List (Int × Int))) (a1 : Int) (v : Int) (h : s_wheldJobS a0 a1 = some v) : (f_wheldJobS_L (l_wheldJobS v) 2 (f_wheldJobS_s2 a1 0 a0)) = some (l_wheldJobS v) := by
  unfold s_wheldJobS at h
  have go : ∀ r, sem (fun v => r = l_wheldJobS v) ((f_wheldJobS_run2 (a1, 0, a0))) → (f_wheldJobS_L r 2 (f_wheldJobS_s2 a1 0 a0)) = some r := fun r h => f_wheldJobS_go2 r _ h
  exact go (l_wheldJobS v) ⟨v, h, rfl⟩
noncomputable def c_wheldJobS : List A → ACall
  | [.lst (.st [(.i .i8), (.i .u16)]) a0, .v (.int .i64 a1)] => ⟨Int, s_wheldJobS a0 a1, fun r => .one (.v (.int .i64 r))⟩
  | _ => ACall.fail
theorem f_wheldJobS_sound : Sound Try.prog 67 c_wheldJobS := by
  refine sound_good f_wheldJobS_ctx f_wheldJobS_LV 2 Try.func67 (c := f_wheldJobS_c) (by kernel_rfl) (rv := f_wheldJobS_rv) (by kernel_rfl) (by kernel_rfl) (by kernel_rfl) (by kernel_rfl) fun rs => ?_
  unfold c_wheldJobS
  split
  · rename_i a0 a1; intro v h; exact ⟨rfl, l_wheldJobS v, rfl, (f_wheldJobS_top a0 a1 _).trans (s_wheldJobS_ok a0 a1 v h)⟩
  · intro v h; cases h

/-! ### function 110: loop.example/g01322/laws.eqJob -/
noncomputable def f_weqJob_c : Code := match Try.f110.body with | some c => c | none => .skip
noncomputable def f_weqJob_X : Ctx := ⟨TT, phiOf [], noPsi, noXi⟩
def f_weqJob_LV : List (Nat × Keep) := []
def f_weqJob_rv : List ResultVar := [.tmp 4]
noncomputable def f_weqJob_L (r : List A) : Nat → AS → Option (List A) := L f_weqJob_X (cnOf f_weqJob_LV) f_weqJob_c (K0 TT f_weqJob_rv) r
theorem f_weqJob_ctx : CtxOK Try.prog f_weqJob_X := ctx_of tab mix trivial
noncomputable def s_weqJob (a0 : Int) (a1 : Int) (a2 : Int) (a3 : Int) : Bool := (cond (a0 != a2) false (cond (a1 != a3) false true))
theorem f_weqJob_top (a0 : Int) (a1 : Int) (a2 : Int) (a3 : Int) (r : List A) : ev f_weqJob_X (lpc (cnOf f_weqJob_LV) (f_weqJob_L r)) f_weqJob_c (K0 TT f_weqJob_rv) (enter [.rc [.v (.int .i8 a0), .v (.int .u16 a1)], .rc [.v (.int .i8 a2), .v (.int .u16 a3)]]) = (cond (a0 != a2) (some [.v (.bool false)]) (cond (a1 != a3) (some [.v (.bool false)]) (some [.v (.bool true)]))) := by kernel_rfl
noncomputable def l_weqJob (r : Bool) : List A := [.v (.bool r)]
theorem s_weqJob_ok (a0 : Int) (a1 : Int) (a2 : Int) (a3 : Int) : (cond (a0 != a2) (some [.v (.bool false)]) (cond (a1 != a3) (some [.v (.bool false)]) (some [.v (.bool true)]))) = some (l_weqJob (s_weqJob a0 a1 a2 a3)) := by
  unfold s_weqJob
  exact (cond_app (fun x => some (l_weqJob x)) rfl (cond_app (fun x => some (l_weqJob x)) rfl rfl))
noncomputable def c_weqJob : List A → ACall
  | [.rc [.v (.int .i8 a0), .v (.int .u16 a1)], .rc [.v (.int .i8 a2), .v (.int .u16 a3)]] => ⟨Bool, some (s_weqJob a0 a1 a2 a3), fun r => .one (.v (.bool r))⟩
  | _ => ACall.fail
theorem f_weqJob_sound : Sound Try.prog 110 c_weqJob := by
  refine sound_good f_weqJob_ctx f_weqJob_LV 2 Try.func110 (c := f_weqJob_c) (by kernel_rfl) (rv := f_weqJob_rv) (by kernel_rfl) (by kernel_rfl) (by kernel_rfl) (by kernel_rfl) fun rs => ?_
  unfold c_weqJob
  split
  · rename_i a0 a1 a2 a3; intro v h; cases h; exact ⟨rfl, l_weqJob (s_weqJob a0 a1 a2 a3), rfl, (f_weqJob_top a0 a1 a2 a3 _).trans (s_weqJob_ok a0 a1 a2 a3)⟩
  · intro v h; cases h

/-! ### function 29: loop.example/g01322/laws.eqJobS -/
noncomputable def f_weqJobS_c : Code := match Try.f29.body with | some c => c | none => .skip
noncomputable def f_weqJobS_X : Ctx := ⟨TT, phiOf [(110, c_weqJob)], noPsi, noXi⟩
def f_weqJobS_LV : List (Nat × Keep) := [(4, ([0, 1, 5], [], []))]
def f_weqJobS_rv : List ResultVar := [.tmp 4]
noncomputable def f_weqJobS_L (r : List A) : Nat → AS → Option (List A) := L f_weqJobS_X (cnOf f_weqJobS_LV) f_weqJobS_c (K0 TT f_weqJobS_rv) r
theorem f_weqJobS_ctx : CtxOK Try.prog f_weqJobS_X := ctx_of tab mix ⟨⟨Try.call110, f_weqJob_sound⟩, trivial⟩
noncomputable def f_weqJobS_s4 (x0 : Int) (x1 : (List (Int × Int))) (x2 : (List (Int × Int))) : AS := ⟨[(0, .a (.sl 0)), (1, .a (.sl 1)), (5, .a (.v (.int .i64 x0)))], [(0, some ⟨false, .arr (.st [(.i .i8), (.i .u16)]) x1⟩), (1, some ⟨false, .arr (.st [(.i .i8), (.i .u16)]) x2⟩)], 2⟩
noncomputable def l_weqJobS (r : Bool) : List A := [.v (.bool r)]
theorem f_weqJobS_step4 (x0 : Int) (x1 : (List (Int × Int))) (x2 : (List (Int × Int))) (r : List A) (h : (cond (decide (x0 < ((List.length x1 : Nat) : Int))) (cond (inB x0 (List.length x1)) (cond (inB x0 (List.length x2)) (cond (!(s_weqJob (List.getD x1 (Int.toNat x0) ((0, 0) : (Int × Int))).1 (List.getD x1 (Int.toNat x0) ((0, 0) : (Int × Int))).2 (List.getD x2 (Int.toNat x0) ((0, 0) : (Int × Int))).1 (List.getD x2 (Int.toNat x0) ((0, 0) : (Int × Int))).2)) (some [.v (.bool false)]) (f_weqJobS_L r 4 (f_weqJobS_s4 (IntKind.wrap .i64 (x0 + 1)) x1 x2))) none) none) (some [.v (.bool true)])) = some r) : f_weqJobS_L r 4 (f_weqJobS_s4 x0 x1 x2) = some r :=
  step_of' h (by kernel_rfl)
noncomputable def f_weqJobS_n4 (x0 : Int) (x1 : (List (Int × Int))) (x2 : (List (Int × Int))) : Option ((Int × (List (Int × Int)) × (List (Int × Int))) ⊕ Bool) := (cond (decide (x0 < ((List.length x1 : Nat) : Int))) (cond (inB x0 (List.length x1)) (cond (inB x0 (List.length x2)) (cond (!(s_weqJob (List.getD x1 (Int.toNat x0) ((0, 0) : (Int × Int))).1 (List.getD x1 (Int.toNat x0) ((0, 0) : (Int × Int))).2 (List.getD x2 (Int.toNat x0) ((0, 0) : (Int × Int))).1 (List.getD x2 (Int.toNat x0) ((0, 0) : (Int × Int))).2)) (some (Sum.inr false)) (some (Sum.inl ((IntKind.wrap .i64 (x0 + 1)), x1, x2)))) none) none) (some (Sum.inr true)))
noncomputable def f_weqJobS_run4 (x : (Int × (List (Int × Int)) × (List (Int × Int)))) : Option Bool := iter (fun x => f_weqJobS_n4 x.1 x.2.1 x.2.2) FU x
noncomputable def f_weqJobS_G4 (r : List A) (x : (Int × (List (Int × Int)) × (List (Int × Int)))) : Prop := f_weqJobS_L r 4 (f_weqJobS_s4 x.1 x.2.1 x.2.2) = some r
noncomputable def f_weqJobS_S4 (r : List A) : Bool → Prop := fun v => r = l_weqJobS v
theorem f_weqJobS_go4 (r : List A) : ∀ x, sem (f_weqJobS_S4 r) (f_weqJobS_run4 x) → f_weqJobS_G4 r x :=
  fun x => iter_sound (step := fun x => f_weqJobS_n4 x.1 x.2.1 x.2.2) (fun x h => by
    unfold f_weqJobS_n4 at h
    exact f_weqJobS_step4 x.1 x.2.1 x.2.2 r ((sem_cond h (fun h => (sem_cond h (fun h => (sem_cond h (fun h => (sem_cond h (fun h => sem_got h fun q => some_eq q) (fun h => sem_got h fun q => q))) (fun h => sem_none h))) (fun h => sem_none h))) (fun h => sem_got h fun q => some_eq q)))) FU x
noncomputable def s_weqJobS (a0 : (List (Int × Int))) (a1 : (List (Int × Int))) : Option Bool := (cond (((List.length a0 : Nat) : Int) != ((List.length a1 : Nat) : Int)) (some false) (f_weqJobS_run4 (0, a0, a1)))
theorem f_weqJobS_top (a0 : (List (Int × Int))) (a1 : (List (Int × Int))) (r : List A) : ev f_weqJobS_X (lpc (cnOf f_weqJobS_LV) (f_weqJobS_L r)) f_weqJobS_c (K0 TT f_weqJobS_rv) (enter [.lst (.st [(.i .i8), (.i .u16)]) a0, .lst (.st [(.i .i8), (.i .u16)]) a1]) = (cond (((List.length a0 : Nat) : Int) != ((List.length a1 : Nat) : Int)) (some [.v (.bool false)]) (f_weqJobS_L r 4 (f_weqJobS_s4 0 a0 a1))) := by kernel_rfl
theorem s_weqJobS_ok (a0 : (List (Int × Int))) (a1 : (List (Int × Int))) (v : Bool) (h : s_weqJobS a0 a1 = some v) : (cond (((List.length a0 : Nat) : Int) != ((List.length a1 : Nat) : Int)) (some [.v (.bool false)]) (f_weqJobS_L (l_weqJobS v) 4 (f_weqJobS_s4 0 a0 a1))) = some (l_weqJobS v) := by
  unfold s_weqJobS at h
  have go : ∀ r, sem (fun v => r = l_weqJobS v) ((cond (((List.length a0 : Nat) : Int) != ((List.length a1 : Nat) : Int)) (some false) (f_weqJobS_run4 (0, a0, a1)))) → (cond (((List.length a0 : Nat) : Int) != ((List.length a1 : Nat) : Int)) (some [.v (.bool false)]) (f_weqJobS_L r 4 (f_weqJobS_s4 0 a0 a1))) = some r := fun r h => (sem_cond h (fun h => sem_got h fun q => some_eq q) (fun h => f_weqJobS_go4 r _ h))
  exact go (l_weqJobS v) ⟨v, h, rfl⟩
noncomputable def c_weqJobS : List A → ACall
  | [.lst (.st [(.i .i8), (.i .u16)]) a0, .lst (.st [(.i .i8), (.i .u16)]) a1] => ⟨Bool, s_weqJobS a0 a1, fun r => .one (.v (.bool r))⟩
  | _ => ACall.fail
theorem f_weqJobS_sound : Sound Try.prog 29 c_weqJobS := by
  refine sound_good f_weqJobS_ctx f_weqJobS_LV 2 Try.func29 (c := f_weqJobS_c) (by kernel_rfl) (rv := f_weqJobS_rv) (by kernel_rfl) (by kernel_rfl) (by kernel_rfl) (by kernel_rfl) fun rs => ?_
  unfold c_weqJobS
  split
  · rename_i a0 a1; intro v h; exact ⟨rfl, l_weqJobS v, rfl, (f_weqJobS_top a0 a1 _).trans (s_weqJobS_ok a0 a1 v h)⟩
  · intro v h; cases h
end Go.RR
