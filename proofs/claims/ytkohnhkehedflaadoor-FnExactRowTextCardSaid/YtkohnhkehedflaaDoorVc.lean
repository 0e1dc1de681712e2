/- Turns of a path: the law. -/
import Derived.Test.YtkohnhkehedflaaDoorVb
import Derived.Test.YtkohnhkehedflaaDoorRz
set_option linter.unusedVariables false
set_option linter.unusedSimpArgs false
set_option maxRecDepth 100000
namespace Go.RR
open Go Go.Proofs

/-! ### function 10: loop.example/g01322/laws.markInt64S -/
noncomputable def f_wmarkInt64S_c : Code := match Tryd.f10.body with | some c => c | none => .skip
noncomputable def f_wmarkInt64S_X : Ctx := ⟨TT, phiOf [], noPsi, noXi⟩
def f_wmarkInt64S_LV : List (Nat × Keep) := [(2, ([0, 1, 5], [], []))]
def f_wmarkInt64S_rv : List ResultVar := [.tmp 4]
noncomputable def f_wmarkInt64S_L (r : List A) : Nat → AS → Option (List A) := L f_wmarkInt64S_X (cnOfU f_wmarkInt64S_LV) f_wmarkInt64S_c (K0U TT f_wmarkInt64S_rv) r
theorem f_wmarkInt64S_ctx : CtxOK Tryd.prog f_wmarkInt64S_X := ctx_of tab mix trivial
noncomputable def f_wmarkInt64S_s2 (x0 : Int) (x1 : Int) (x2 : (List Int)) : AS := ⟨[(0, .a (.sl 0)), (1, .a (.v (.int .i64 x0))), (5, .a (.v (.int .i64 x1)))], [(0, some ⟨true, .arr (.one (.i .i64)) x2⟩)], 1⟩
noncomputable def l_wmarkInt64S (r : (Int × (List Int))) : List A := [.v (.int .i64 r.1), .lst (.one (.i .i64)) r.2]
theorem f_wmarkInt64S_step2 (x0 : Int) (x1 : Int) (x2 : (List Int)) (r : List A) (h : (cond (decide (x1 < ((List.length x2 : Nat) : Int))) (cond (inB x1 (List.length x2)) (f_wmarkInt64S_L r 2 (f_wmarkInt64S_s2 (IntKind.wrap .i64 (x0 + 1)) (IntKind.wrap .i64 (x1 + 1)) (List.set x2 (Int.toNat x1) x0))) none) (some [.v (.int .i64 x0), .lst (.one (.i .i64)) x2])) = some r) : f_wmarkInt64S_L r 2 (f_wmarkInt64S_s2 x0 x1 x2) = some r :=
  step_of' h (by kernel_rfl)
noncomputable def f_wmarkInt64S_n2 (x0 : Int) (x1 : Int) (x2 : (List Int)) : Option ((Int × Int × (List Int)) ⊕ (Int × (List Int))) := (cond (decide (x1 < ((List.length x2 : Nat) : Int))) (cond (inB x1 (List.length x2)) (some (Sum.inl ((IntKind.wrap .i64 (x0 + 1)), (IntKind.wrap .i64 (x1 + 1)), (List.set x2 (Int.toNat x1) x0)))) none) (some (Sum.inr (x0, x2))))
noncomputable def f_wmarkInt64S_run2 (x : (Int × Int × (List Int))) : Option (Int × (List Int)) := iter (fun x => f_wmarkInt64S_n2 x.1 x.2.1 x.2.2) FU x
noncomputable def f_wmarkInt64S_G2 (r : List A) (x : (Int × Int × (List Int))) : Prop := f_wmarkInt64S_L r 2 (f_wmarkInt64S_s2 x.1 x.2.1 x.2.2) = some r
noncomputable def f_wmarkInt64S_S2 (r : List A) : (Int × (List Int)) → Prop := fun v => r = l_wmarkInt64S v
theorem f_wmarkInt64S_go2 (r : List A) : ∀ x, sem (f_wmarkInt64S_S2 r) (f_wmarkInt64S_run2 x) → f_wmarkInt64S_G2 r x :=
  fun x => iter_sound (step := fun x => f_wmarkInt64S_n2 x.1 x.2.1 x.2.2) (fun x h => by
    unfold f_wmarkInt64S_n2 at h
    exact f_wmarkInt64S_step2 x.1 x.2.1 x.2.2 r ((sem_cond h (fun h => (sem_cond h (fun h => sem_got h fun q => q) (fun h => sem_none h))) (fun h => sem_got h fun q => some_eq q)))) FU x
noncomputable def s_wmarkInt64S (a0 : (List Int)) (a1 : Int) : Option (Int × (List Int)) := (f_wmarkInt64S_run2 (a1, 0, a0))
theorem f_wmarkInt64S_top (a0 : (List Int)) (a1 : Int) (r : List A) : ev f_wmarkInt64S_X (lpc (cnOfU f_wmarkInt64S_LV) (f_wmarkInt64S_L r)) f_wmarkInt64S_c (K0U TT f_wmarkInt64S_rv) (enterU (.one (.i .i64)) a0 [.v (.int .i64 a1)]) = (f_wmarkInt64S_L r 2 (f_wmarkInt64S_s2 a1 0 a0)) := by kernel_rfl
theorem s_wmarkInt64S_ok (a0 : (List Int)) (a1 : Int) (v : (Int × (List Int))) (h : s_wmarkInt64S a0 a1 = some v) : (f_wmarkInt64S_L (l_wmarkInt64S v) 2 (f_wmarkInt64S_s2 a1 0 a0)) = some (l_wmarkInt64S v) := by
  unfold s_wmarkInt64S at h
  have go : ∀ r, sem (fun v => r = l_wmarkInt64S v) ((f_wmarkInt64S_run2 (a1, 0, a0))) → (f_wmarkInt64S_L r 2 (f_wmarkInt64S_s2 a1 0 a0)) = some r := fun r h => f_wmarkInt64S_go2 r _ h
  exact go (l_wmarkInt64S v) ⟨v, h, rfl⟩
noncomputable def u_wmarkInt64S : UCon := fun e l rest => match e, l, rest with
  | (.one (.i .i64)), a0, [.v (.int .i64 a1)] => ⟨(Int × (List Int)), s_wmarkInt64S a0 a1, fun r => some (.v (.int .i64 r.1)), fun r => r.2⟩
  | _, _, _ => UCall.fail
theorem f_wmarkInt64S_sound : USound Tryd.prog 10 u_wmarkInt64S := by
  refine sound_goodU f_wmarkInt64S_ctx f_wmarkInt64S_LV 2 Tryd.func10 (c := f_wmarkInt64S_c) (by kernel_rfl) (rv := f_wmarkInt64S_rv) (by kernel_rfl) (by kernel_rfl) (by kernel_rfl) (by kernel_rfl) fun e l rest => ?_
  unfold u_wmarkInt64S
  split
  · rename_i a0 a1; intro v h; exact ⟨rfl, (f_wmarkInt64S_top a0 a1 _).trans (s_wmarkInt64S_ok a0 a1 v h)⟩
  · intro v h; cases h

/-! ### function 18: loop.example/g01322/laws.markRow -/
noncomputable def f_wmarkRow_c : Code := match Tryd.f18.body with | some c => c | none => .skip
noncomputable def f_wmarkRow_X : Ctx := ⟨TT, phiOf [], noPsi, noXi⟩
def f_wmarkRow_LV : List (Nat × Keep) := [(2, ([0, 1, 5], [], []))]
def f_wmarkRow_rv : List ResultVar := [.tmp 4]
noncomputable def f_wmarkRow_L (r : List A) : Nat → AS → Option (List A) := L f_wmarkRow_X (cnOfU f_wmarkRow_LV) f_wmarkRow_c (K0U TT f_wmarkRow_rv) r
theorem f_wmarkRow_ctx : CtxOK Tryd.prog f_wmarkRow_X := ctx_of tab mix trivial
noncomputable def f_wmarkRow_s2 (x0 : Int) (x1 : Int) (x2 : (List Int)) : AS := ⟨[(0, .a (.sl 0)), (1, .a (.v (.int .i64 x0))), (5, .a (.v (.int .i64 x1)))], [(0, some ⟨true, .arr (.one (.i .i16)) x2⟩)], 1⟩
noncomputable def l_wmarkRow (r : (Int × (List Int))) : List A := [.v (.int .i64 r.1), .lst (.one (.i .i16)) r.2]
theorem f_wmarkRow_step2 (x0 : Int) (x1 : Int) (x2 : (List Int)) (r : List A) (h : (cond (decide (x1 < ((List.length x2 : Nat) : Int))) (cond (inB x1 (List.length x2)) (f_wmarkRow_L r 2 (f_wmarkRow_s2 (IntKind.wrap .i64 (x0 + 1)) (IntKind.wrap .i64 (x1 + 1)) (List.set x2 (Int.toNat x1) (IntKind.wrap .i16 x0)))) none) (some [.v (.int .i64 x0), .lst (.one (.i .i16)) x2])) = some r) : f_wmarkRow_L r 2 (f_wmarkRow_s2 x0 x1 x2) = some r :=
  step_of' h (by kernel_rfl)
noncomputable def f_wmarkRow_n2 (x0 : Int) (x1 : Int) (x2 : (List Int)) : Option ((Int × Int × (List Int)) ⊕ (Int × (List Int))) := (cond (decide (x1 < ((List.length x2 : Nat) : Int))) (cond (inB x1 (List.length x2)) (some (Sum.inl ((IntKind.wrap .i64 (x0 + 1)), (IntKind.wrap .i64 (x1 + 1)), (List.set x2 (Int.toNat x1) (IntKind.wrap .i16 x0))))) none) (some (Sum.inr (x0, x2))))
noncomputable def f_wmarkRow_run2 (x : (Int × Int × (List Int))) : Option (Int × (List Int)) := iter (fun x => f_wmarkRow_n2 x.1 x.2.1 x.2.2) FU x
noncomputable def f_wmarkRow_G2 (r : List A) (x : (Int × Int × (List Int))) : Prop := f_wmarkRow_L r 2 (f_wmarkRow_s2 x.1 x.2.1 x.2.2) = some r
noncomputable def f_wmarkRow_S2 (r : List A) : (Int × (List Int)) → Prop := fun v => r = l_wmarkRow v
theorem f_wmarkRow_go2 (r : List A) : ∀ x, sem (f_wmarkRow_S2 r) (f_wmarkRow_run2 x) → f_wmarkRow_G2 r x :=
  fun x => iter_sound (step := fun x => f_wmarkRow_n2 x.1 x.2.1 x.2.2) (fun x h => by
    unfold f_wmarkRow_n2 at h
    exact f_wmarkRow_step2 x.1 x.2.1 x.2.2 r ((sem_cond h (fun h => (sem_cond h (fun h => sem_got h fun q => q) (fun h => sem_none h))) (fun h => sem_got h fun q => some_eq q)))) FU x
noncomputable def s_wmarkRow (a0 : (List Int)) (a1 : Int) : Option (Int × (List Int)) := (f_wmarkRow_run2 (a1, 0, a0))
theorem f_wmarkRow_top (a0 : (List Int)) (a1 : Int) (r : List A) : ev f_wmarkRow_X (lpc (cnOfU f_wmarkRow_LV) (f_wmarkRow_L r)) f_wmarkRow_c (K0U TT f_wmarkRow_rv) (enterU (.one (.i .i16)) a0 [.v (.int .i64 a1)]) = (f_wmarkRow_L r 2 (f_wmarkRow_s2 a1 0 a0)) := by kernel_rfl
theorem s_wmarkRow_ok (a0 : (List Int)) (a1 : Int) (v : (Int × (List Int))) (h : s_wmarkRow a0 a1 = some v) : (f_wmarkRow_L (l_wmarkRow v) 2 (f_wmarkRow_s2 a1 0 a0)) = some (l_wmarkRow v) := by
  unfold s_wmarkRow at h
  have go : ∀ r, sem (fun v => r = l_wmarkRow v) ((f_wmarkRow_run2 (a1, 0, a0))) → (f_wmarkRow_L r 2 (f_wmarkRow_s2 a1 0 a0)) = some r := fun r h => f_wmarkRow_go2 r _ h
  exact go (l_wmarkRow v) ⟨v, h, rfl⟩
noncomputable def u_wmarkRow : UCon := fun e l rest => match e, l, rest with
  | (.one (.i .i16)), a0, [.v (.int .i64 a1)] => ⟨(Int × (List Int)), s_wmarkRow a0 a1, fun r => some (.v (.int .i64 r.1)), fun r => r.2⟩
  | _, _, _ => UCall.fail
theorem f_wmarkRow_sound : USound Tryd.prog 18 u_wmarkRow := by
  refine sound_goodU f_wmarkRow_ctx f_wmarkRow_LV 2 Tryd.func18 (c := f_wmarkRow_c) (by kernel_rfl) (rv := f_wmarkRow_rv) (by kernel_rfl) (by kernel_rfl) (by kernel_rfl) (by kernel_rfl) fun e l rest => ?_
  unfold u_wmarkRow
  split
  · rename_i a0 a1; intro v h; exact ⟨rfl, (f_wmarkRow_top a0 a1 _).trans (s_wmarkRow_ok a0 a1 v h)⟩
  · intro v h; cases h

/-! ### function 42: loop.example/g01322/spec.l00In -/
noncomputable def f_sl00In_c : Code := match Tryd.f42.body with | some c => c | none => .skip
noncomputable def f_sl00In_X : Ctx := ⟨TT, phiOf [], noPsi, noXi⟩
def f_sl00In_LV : List (Nat × Keep) := []
def f_sl00In_rv : List ResultVar := [.tmp 6]
noncomputable def f_sl00In_L (r : List A) : Nat → AS → Option (List A) := L f_sl00In_X (cnOf f_sl00In_LV) f_sl00In_c (K0 TT f_sl00In_rv) r
theorem f_sl00In_ctx : CtxOK Tryd.prog f_sl00In_X := ctx_of tab mix trivial
noncomputable def s_sl00In (a0 : Int) (a1 : Int) (a2 : Int) : Bool := (cond (decide (a0 ≥ a1)) (decide (a0 ≤ a2)) false)
theorem f_sl00In_top (a0 : Int) (a1 : Int) (a2 : Int) (r : List A) : ev f_sl00In_X (lpc (cnOf f_sl00In_LV) (f_sl00In_L r)) f_sl00In_c (K0 TT f_sl00In_rv) (enter [.v (.int .i64 a0), .v (.int .i64 a1), .v (.int .i64 a2)]) = (cond (decide (a0 ≥ a1)) (some [.v (.bool (decide (a0 ≤ a2)))]) (some [.v (.bool false)])) := by kernel_rfl
noncomputable def l_sl00In (r : Bool) : List A := [.v (.bool r)]
theorem s_sl00In_ok (a0 : Int) (a1 : Int) (a2 : Int) : (cond (decide (a0 ≥ a1)) (some [.v (.bool (decide (a0 ≤ a2)))]) (some [.v (.bool false)])) = some (l_sl00In (s_sl00In a0 a1 a2)) := by
  unfold s_sl00In
  exact (cond_app (fun x => some (l_sl00In x)) rfl rfl)
noncomputable def c_sl00In : List A → ACall
  | [.v (.int .i64 a0), .v (.int .i64 a1), .v (.int .i64 a2)] => ⟨Bool, some (s_sl00In a0 a1 a2), fun r => .one (.v (.bool r))⟩
  | _ => ACall.fail
theorem f_sl00In_sound : Sound Tryd.prog 42 c_sl00In := by
  refine sound_good f_sl00In_ctx f_sl00In_LV 3 Tryd.func42 (c := f_sl00In_c) (by kernel_rfl) (rv := f_sl00In_rv) (by kernel_rfl) (by kernel_rfl) (by kernel_rfl) (by kernel_rfl) fun rs => ?_
  unfold c_sl00In
  split
  · rename_i a0 a1 a2; intro v h; cases h; exact ⟨rfl, l_sl00In (s_sl00In a0 a1 a2), rfl, (f_sl00In_top a0 a1 a2 _).trans (s_sl00In_ok a0 a1 a2)⟩
  · intro v h; cases h

/-! ### function 25: loop.example/g01322/spec.l05Path -/
noncomputable def f_sl05Path_c : Code := match Tryd.f25.body with | some c => c | none => .skip
noncomputable def f_sl05Path_X : Ctx := ⟨TT, phiOf [(42, c_sl00In)], noPsi, noXi⟩
def f_sl05Path_LV : List (Nat × Keep) := [(3, ([0, 4, 5], [], []))]
def f_sl05Path_rv : List ResultVar := [.tmp 2, .tmp 3]
noncomputable def f_sl05Path_L (r : List A) : Nat → AS → Option (List A) := L f_sl05Path_X (cnOf f_sl05Path_LV) f_sl05Path_c (K0 TT f_sl05Path_rv) r
theorem f_sl05Path_ctx : CtxOK Tryd.prog f_sl05Path_X := ctx_of tab mix ⟨⟨Tryd.call42, f_sl00In_sound⟩, trivial⟩
noncomputable def f_sl05Path_s3 (x0 : ByteArray) (x1 : Int) (x2 : (List Int)) : AS := ⟨[(0, .a (.v (.string x0))), (4, .a (.sl 0)), (5, .a (.v (.int .i64 x1)))], [(0, some ⟨true, .arr (.one (.i .i64)) x2⟩)], 1⟩
noncomputable def l_sl05Path (r : ((List Int) × Bool)) : List A := [.lst (.one (.i .i64)) r.1, .v (.bool r.2)]
theorem f_sl05Path_step3 (x0 : ByteArray) (x1 : Int) (x2 : (List Int)) (r : List A) (h : (cond (decide (x1 < ((x0.size : Nat) : Int))) (cond (inB x1 x0.size) (cond ((byteAt x0 (Int.toNat x1)) != 110) (cond ((byteAt x0 (Int.toNat x1)) != 101) (cond ((byteAt x0 (Int.toNat x1)) != 115) (cond ((byteAt x0 (Int.toNat x1)) != 119) (some [.lst (.one (.i .i64)) [], .v (.bool false)]) (cond (decide (x1 > 0)) (cond (inB (IntKind.wrap .i64 (x1 - 1)) x0.size) (cond ((byteAt x0 (Int.toNat (IntKind.wrap .i64 (x1 - 1)))) == (byteAt x0 (Int.toNat x1))) (cond (inB (IntKind.wrap .i64 (((List.length x2 : Nat) : Int) - 1)) (List.length x2)) (cond (inB (IntKind.wrap .i64 (((List.length x2 : Nat) : Int) - 1)) (List.length x2)) (f_sl05Path_L r 3 (f_sl05Path_s3 x0 (IntKind.wrap .i64 (x1 + 1)) (List.set x2 (Int.toNat (IntKind.wrap .i64 (((List.length x2 : Nat) : Int) - 1))) (IntKind.wrap .i64 ((List.getD x2 (Int.toNat (IntKind.wrap .i64 (((List.length x2 : Nat) : Int) - 1))) 0) + 1))))) none) none) (cond (fits ((List.length (x2 : List Int) + List.length ([1] : List Int)) * 8)) (f_sl05Path_L r 3 (f_sl05Path_s3 x0 (IntKind.wrap .i64 (x1 + 1)) (x2 ++ [1]))) none)) none) (cond (fits ((List.length (x2 : List Int) + List.length ([1] : List Int)) * 8)) (f_sl05Path_L r 3 (f_sl05Path_s3 x0 (IntKind.wrap .i64 (x1 + 1)) (x2 ++ [1]))) none))) (cond (decide (x1 > 0)) (cond (inB (IntKind.wrap .i64 (x1 - 1)) x0.size) (cond ((byteAt x0 (Int.toNat (IntKind.wrap .i64 (x1 - 1)))) == (byteAt x0 (Int.toNat x1))) (cond (inB (IntKind.wrap .i64 (((List.length x2 : Nat) : Int) - 1)) (List.length x2)) (cond (inB (IntKind.wrap .i64 (((List.length x2 : Nat) : Int) - 1)) (List.length x2)) (f_sl05Path_L r 3 (f_sl05Path_s3 x0 (IntKind.wrap .i64 (x1 + 1)) (List.set x2 (Int.toNat (IntKind.wrap .i64 (((List.length x2 : Nat) : Int) - 1))) (IntKind.wrap .i64 ((List.getD x2 (Int.toNat (IntKind.wrap .i64 (((List.length x2 : Nat) : Int) - 1))) 0) + 1))))) none) none) (cond (fits ((List.length (x2 : List Int) + List.length ([1] : List Int)) * 8)) (f_sl05Path_L r 3 (f_sl05Path_s3 x0 (IntKind.wrap .i64 (x1 + 1)) (x2 ++ [1]))) none)) none) (cond (fits ((List.length (x2 : List Int) + List.length ([1] : List Int)) * 8)) (f_sl05Path_L r 3 (f_sl05Path_s3 x0 (IntKind.wrap .i64 (x1 + 1)) (x2 ++ [1]))) none))) (cond (decide (x1 > 0)) (cond (inB (IntKind.wrap .i64 (x1 - 1)) x0.size) (cond ((byteAt x0 (Int.toNat (IntKind.wrap .i64 (x1 - 1)))) == (byteAt x0 (Int.toNat x1))) (cond (inB (IntKind.wrap .i64 (((List.length x2 : Nat) : Int) - 1)) (List.length x2)) (cond (inB (IntKind.wrap .i64 (((List.length x2 : Nat) : Int) - 1)) (List.length x2)) (f_sl05Path_L r 3 (f_sl05Path_s3 x0 (IntKind.wrap .i64 (x1 + 1)) (List.set x2 (Int.toNat (IntKind.wrap .i64 (((List.length x2 : Nat) : Int) - 1))) (IntKind.wrap .i64 ((List.getD x2 (Int.toNat (IntKind.wrap .i64 (((List.length x2 : Nat) : Int) - 1))) 0) + 1))))) none) none) (cond (fits ((List.length (x2 : List Int) + List.length ([1] : List Int)) * 8)) (f_sl05Path_L r 3 (f_sl05Path_s3 x0 (IntKind.wrap .i64 (x1 + 1)) (x2 ++ [1]))) none)) none) (cond (fits ((List.length (x2 : List Int) + List.length ([1] : List Int)) * 8)) (f_sl05Path_L r 3 (f_sl05Path_s3 x0 (IntKind.wrap .i64 (x1 + 1)) (x2 ++ [1]))) none))) (cond (decide (x1 > 0)) (cond (inB (IntKind.wrap .i64 (x1 - 1)) x0.size) (cond ((byteAt x0 (Int.toNat (IntKind.wrap .i64 (x1 - 1)))) == (byteAt x0 (Int.toNat x1))) (cond (inB (IntKind.wrap .i64 (((List.length x2 : Nat) : Int) - 1)) (List.length x2)) (cond (inB (IntKind.wrap .i64 (((List.length x2 : Nat) : Int) - 1)) (List.length x2)) (f_sl05Path_L r 3 (f_sl05Path_s3 x0 (IntKind.wrap .i64 (x1 + 1)) (List.set x2 (Int.toNat (IntKind.wrap .i64 (((List.length x2 : Nat) : Int) - 1))) (IntKind.wrap .i64 ((List.getD x2 (Int.toNat (IntKind.wrap .i64 (((List.length x2 : Nat) : Int) - 1))) 0) + 1))))) none) none) (cond (fits ((List.length (x2 : List Int) + List.length ([1] : List Int)) * 8)) (f_sl05Path_L r 3 (f_sl05Path_s3 x0 (IntKind.wrap .i64 (x1 + 1)) (x2 ++ [1]))) none)) none) (cond (fits ((List.length (x2 : List Int) + List.length ([1] : List Int)) * 8)) (f_sl05Path_L r 3 (f_sl05Path_s3 x0 (IntKind.wrap .i64 (x1 + 1)) (x2 ++ [1]))) none))) none) (some [.lst (.one (.i .i64)) x2, .v (.bool (s_sl00In ((x0.size : Nat) : Int) 1 2000))])) = some r) : f_sl05Path_L r 3 (f_sl05Path_s3 x0 x1 x2) = some r :=
  step_of' h (by kernel_rfl)
noncomputable def f_sl05Path_n3 (x0 : ByteArray) (x1 : Int) (x2 : (List Int)) : Option ((ByteArray × Int × (List Int)) ⊕ ((List Int) × Bool)) := (cond (decide (x1 < ((x0.size : Nat) : Int))) (cond (inB x1 x0.size) (cond ((byteAt x0 (Int.toNat x1)) != 110) (cond ((byteAt x0 (Int.toNat x1)) != 101) (cond ((byteAt x0 (Int.toNat x1)) != 115) (cond ((byteAt x0 (Int.toNat x1)) != 119) (some (Sum.inr ([], false))) (cond (decide (x1 > 0)) (cond (inB (IntKind.wrap .i64 (x1 - 1)) x0.size) (cond ((byteAt x0 (Int.toNat (IntKind.wrap .i64 (x1 - 1)))) == (byteAt x0 (Int.toNat x1))) (cond (inB (IntKind.wrap .i64 (((List.length x2 : Nat) : Int) - 1)) (List.length x2)) (cond (inB (IntKind.wrap .i64 (((List.length x2 : Nat) : Int) - 1)) (List.length x2)) (some (Sum.inl (x0, (IntKind.wrap .i64 (x1 + 1)), (List.set x2 (Int.toNat (IntKind.wrap .i64 (((List.length x2 : Nat) : Int) - 1))) (IntKind.wrap .i64 ((List.getD x2 (Int.toNat (IntKind.wrap .i64 (((List.length x2 : Nat) : Int) - 1))) 0) + 1)))))) none) none) (cond (fits ((List.length (x2 : List Int) + List.length ([1] : List Int)) * 8)) (some (Sum.inl (x0, (IntKind.wrap .i64 (x1 + 1)), (x2 ++ [1])))) none)) none) (cond (fits ((List.length (x2 : List Int) + List.length ([1] : List Int)) * 8)) (some (Sum.inl (x0, (IntKind.wrap .i64 (x1 + 1)), (x2 ++ [1])))) none))) (cond (decide (x1 > 0)) (cond (inB (IntKind.wrap .i64 (x1 - 1)) x0.size) (cond ((byteAt x0 (Int.toNat (IntKind.wrap .i64 (x1 - 1)))) == (byteAt x0 (Int.toNat x1))) (cond (inB (IntKind.wrap .i64 (((List.length x2 : Nat) : Int) - 1)) (List.length x2)) (cond (inB (IntKind.wrap .i64 (((List.length x2 : Nat) : Int) - 1)) (List.length x2)) (some (Sum.inl (x0, (IntKind.wrap .i64 (x1 + 1)), (List.set x2 (Int.toNat (IntKind.wrap .i64 (((List.length x2 : Nat) : Int) - 1))) (IntKind.wrap .i64 ((List.getD x2 (Int.toNat (IntKind.wrap .i64 (((List.length x2 : Nat) : Int) - 1))) 0) + 1)))))) none) none) (cond (fits ((List.length (x2 : List Int) + List.length ([1] : List Int)) * 8)) (some (Sum.inl (x0, (IntKind.wrap .i64 (x1 + 1)), (x2 ++ [1])))) none)) none) (cond (fits ((List.length (x2 : List Int) + List.length ([1] : List Int)) * 8)) (some (Sum.inl (x0, (IntKind.wrap .i64 (x1 + 1)), (x2 ++ [1])))) none))) (cond (decide (x1 > 0)) (cond (inB (IntKind.wrap .i64 (x1 - 1)) x0.size) (cond ((byteAt x0 (Int.toNat (IntKind.wrap .i64 (x1 - 1)))) == (byteAt x0 (Int.toNat x1))) (cond (inB (IntKind.wrap .i64 (((List.length x2 : Nat) : Int) - 1)) (List.length x2)) (cond (inB (IntKind.wrap .i64 (((List.length x2 : Nat) : Int) - 1)) (List.length x2)) (some (Sum.inl (x0, (IntKind.wrap .i64 (x1 + 1)), (List.set x2 (Int.toNat (IntKind.wrap .i64 (((List.length x2 : Nat) : Int) - 1))) (IntKind.wrap .i64 ((List.getD x2 (Int.toNat (IntKind.wrap .i64 (((List.length x2 : Nat) : Int) - 1))) 0) + 1)))))) none) none) (cond (fits ((List.length (x2 : List Int) + List.length ([1] : List Int)) * 8)) (some (Sum.inl (x0, (IntKind.wrap .i64 (x1 + 1)), (x2 ++ [1])))) none)) none) (cond (fits ((List.length (x2 : List Int) + List.length ([1] : List Int)) * 8)) (some (Sum.inl (x0, (IntKind.wrap .i64 (x1 + 1)), (x2 ++ [1])))) none))) (cond (decide (x1 > 0)) (cond (inB (IntKind.wrap .i64 (x1 - 1)) x0.size) (cond ((byteAt x0 (Int.toNat (IntKind.wrap .i64 (x1 - 1)))) == (byteAt x0 (Int.toNat x1))) (cond (inB (IntKind.wrap .i64 (((List.length x2 : Nat) : Int) - 1)) (List.length x2)) (cond (inB (IntKind.wrap .i64 (((List.length x2 : Nat) : Int) - 1)) (List.length x2)) (some (Sum.inl (x0, (IntKind.wrap .i64 (x1 + 1)), (List.set x2 (Int.toNat (IntKind.wrap .i64 (((List.length x2 : Nat) : Int) - 1))) (IntKind.wrap .i64 ((List.getD x2 (Int.toNat (IntKind.wrap .i64 (((List.length x2 : Nat) : Int) - 1))) 0) + 1)))))) none) none) (cond (fits ((List.length (x2 : List Int) + List.length ([1] : List Int)) * 8)) (some (Sum.inl (x0, (IntKind.wrap .i64 (x1 + 1)), (x2 ++ [1])))) none)) none) (cond (fits ((List.length (x2 : List Int) + List.length ([1] : List Int)) * 8)) (some (Sum.inl (x0, (IntKind.wrap .i64 (x1 + 1)), (x2 ++ [1])))) none))) none) (some (Sum.inr (x2, (s_sl00In ((x0.size : Nat) : Int) 1 2000)))))
noncomputable def f_sl05Path_run3 (x : (ByteArray × Int × (List Int))) : Option ((List Int) × Bool) := iter (fun x => f_sl05Path_n3 x.1 x.2.1 x.2.2) FU x
noncomputable def f_sl05Path_G3 (r : List A) (x : (ByteArray × Int × (List Int))) : Prop := f_sl05Path_L r 3 (f_sl05Path_s3 x.1 x.2.1 x.2.2) = some r
noncomputable def f_sl05Path_S3 (r : List A) : ((List Int) × Bool) → Prop := fun v => r = l_sl05Path v
theorem f_sl05Path_go3 (r : List A) : ∀ x, sem (f_sl05Path_S3 r) (f_sl05Path_run3 x) → f_sl05Path_G3 r x :=
  fun x => iter_sound (step := fun x => f_sl05Path_n3 x.1 x.2.1 x.2.2) (fun x h => by
    unfold f_sl05Path_n3 at h
    exact f_sl05Path_step3 x.1 x.2.1 x.2.2 r ((sem_cond h (fun h => (sem_cond h (fun h => (sem_cond h (fun h => (sem_cond h (fun h => (sem_cond h (fun h => (sem_cond h (fun h => sem_got h fun q => some_eq q) (fun h => (sem_cond h (fun h => (sem_cond h (fun h => (sem_cond h (fun h => (sem_cond h (fun h => (sem_cond h (fun h => sem_got h fun q => q) (fun h => sem_none h))) (fun h => sem_none h))) (fun h => (sem_cond h (fun h => sem_got h fun q => q) (fun h => sem_none h))))) (fun h => sem_none h))) (fun h => (sem_cond h (fun h => sem_got h fun q => q) (fun h => sem_none h))))))) (fun h => (sem_cond h (fun h => (sem_cond h (fun h => (sem_cond h (fun h => (sem_cond h (fun h => (sem_cond h (fun h => sem_got h fun q => q) (fun h => sem_none h))) (fun h => sem_none h))) (fun h => (sem_cond h (fun h => sem_got h fun q => q) (fun h => sem_none h))))) (fun h => sem_none h))) (fun h => (sem_cond h (fun h => sem_got h fun q => q) (fun h => sem_none h))))))) (fun h => (sem_cond h (fun h => (sem_cond h (fun h => (sem_cond h (fun h => (sem_cond h (fun h => (sem_cond h (fun h => sem_got h fun q => q) (fun h => sem_none h))) (fun h => sem_none h))) (fun h => (sem_cond h (fun h => sem_got h fun q => q) (fun h => sem_none h))))) (fun h => sem_none h))) (fun h => (sem_cond h (fun h => sem_got h fun q => q) (fun h => sem_none h))))))) (fun h => (sem_cond h (fun h => (sem_cond h (fun h => (sem_cond h (fun h => (sem_cond h (fun h => (sem_cond h (fun h => sem_got h fun q => q) (fun h => sem_none h))) (fun h => sem_none h))) (fun h => (sem_cond h (fun h => sem_got h fun q => q) (fun h => sem_none h))))) (fun h => sem_none h))) (fun h => (sem_cond h (fun h => sem_got h fun q => q) (fun h => sem_none h))))))) (fun h => sem_none h))) (fun h => sem_got h fun q => some_eq q)))) FU x
noncomputable def s_sl05Path (a0 : ByteArray) : Option ((List Int) × Bool) := (f_sl05Path_run3 (a0, 0, []))
theorem f_sl05Path_top (a0 : ByteArray) (r : List A) : ev f_sl05Path_X (lpc (cnOf f_sl05Path_LV) (f_sl05Path_L r)) f_sl05Path_c (K0 TT f_sl05Path_rv) (enter [.v (.string a0)]) = (f_sl05Path_L r 3 (f_sl05Path_s3 a0 0 [])) := by kernel_rfl
theorem s_sl05Path_ok (a0 : ByteArray) (v : ((List Int) × Bool)) (h : s_sl05Path a0 = some v) : (f_sl05Path_L (l_sl05Path v) 3 (f_sl05Path_s3 a0 0 [])) = some (l_sl05Path v) := by
  unfold s_sl05Path at h
  have go : ∀ r, sem (fun v => r = l_sl05Path v) ((f_sl05Path_run3 (a0, 0, []))) → (f_sl05Path_L r 3 (f_sl05Path_s3 a0 0 [])) = some r := fun r h => f_sl05Path_go3 r _ h
  exact go (l_sl05Path v) ⟨v, h, rfl⟩
noncomputable def c_sl05Path : List A → ACall
  | [.v (.string a0)] => ⟨((List Int) × Bool), s_sl05Path a0, fun r => .tup [.lst (.one (.i .i64)) r.1, .v (.bool r.2)]⟩
  | _ => ACall.fail
theorem f_sl05Path_sound : Sound Tryd.prog 25 c_sl05Path := by
  refine sound_good f_sl05Path_ctx f_sl05Path_LV 1 Tryd.func25 (c := f_sl05Path_c) (by kernel_rfl) (rv := f_sl05Path_rv) (by kernel_rfl) (by kernel_rfl) (by kernel_rfl) (by kernel_rfl) fun rs => ?_
  unfold c_sl05Path
  split
  · rename_i a0; intro v h; exact ⟨rfl, l_sl05Path v, rfl, (f_sl05Path_top a0 _).trans (s_sl05Path_ok a0 v h)⟩
  · intro v h; cases h

/-! ### function 7: loop.example/g01322/spec.TurnsOf -/
noncomputable def f_sTurnsOf_c : Code := match Tryd.f7.body with | some c => c | none => .skip
noncomputable def f_sTurnsOf_X : Ctx := ⟨TT, phiOf [(25, c_sl05Path)], noPsi, noXi⟩
def f_sTurnsOf_LV : List (Nat × Keep) := []
def f_sTurnsOf_rv : List ResultVar := [.tmp 2, .tmp 3, .tmp 4]
noncomputable def f_sTurnsOf_L (r : List A) : Nat → AS → Option (List A) := L f_sTurnsOf_X (cnOf f_sTurnsOf_LV) f_sTurnsOf_c (K0 TT f_sTurnsOf_rv) r
theorem f_sTurnsOf_ctx : CtxOK Tryd.prog f_sTurnsOf_X := ctx_of tab mix ⟨⟨Tryd.call25, f_sl05Path_sound⟩, trivial⟩
noncomputable def s_sTurnsOf (a0 : ByteArray) : Option (Int × (List Int) × Int) := (Option.bind (s_sl05Path a0) fun r1 => (cond (!r1.2) (some (0, [], 5)) (some ((IntKind.wrap .i64 (((List.length r1.1 : Nat) : Int) - 1)), (r1.1), 0))))
theorem f_sTurnsOf_top (a0 : ByteArray) (r : List A) : ev f_sTurnsOf_X (lpc (cnOf f_sTurnsOf_LV) (f_sTurnsOf_L r)) f_sTurnsOf_c (K0 TT f_sTurnsOf_rv) (enter [.v (.string a0)]) = (Option.bind (s_sl05Path a0) fun r1 => (cond (!r1.2) (some [.v (.int .i64 0), .lst (.one (.i .i64)) [], .v (.int .i64 5)]) (some [.v (.int .i64 (IntKind.wrap .i64 (((List.length r1.1 : Nat) : Int) - 1))), .lst (.one (.i .i64)) r1.1, .v (.int .i64 0)]))) := by kernel_rfl
noncomputable def l_sTurnsOf (r : (Int × (List Int) × Int)) : List A := [.v (.int .i64 r.1), .lst (.one (.i .i64)) r.2.1, .v (.int .i64 r.2.2)]
theorem s_sTurnsOf_ok (a0 : ByteArray) (v : (Int × (List Int) × Int)) (h : s_sTurnsOf a0 = some v) : (Option.bind (s_sl05Path a0) fun r1 => (cond (!r1.2) (some [.v (.int .i64 0), .lst (.one (.i .i64)) [], .v (.int .i64 5)]) (some [.v (.int .i64 (IntKind.wrap .i64 (((List.length r1.1 : Nat) : Int) - 1))), .lst (.one (.i .i64)) r1.1, .v (.int .i64 0)]))) = some (l_sTurnsOf v) := by
  have e : (Option.bind (s_sl05Path a0) fun r1 => (cond (!r1.2) (some [.v (.int .i64 0), .lst (.one (.i .i64)) [], .v (.int .i64 5)]) (some [.v (.int .i64 (IntKind.wrap .i64 (((List.length r1.1 : Nat) : Int) - 1))), .lst (.one (.i .i64)) r1.1, .v (.int .i64 0)]))) = Option.map l_sTurnsOf (s_sTurnsOf a0) := by
    unfold s_sTurnsOf
    exact (bind_app fun _ => (cond_app (Option.map l_sTurnsOf) rfl rfl))
  rw [e, h]; rfl
noncomputable def c_sTurnsOf : List A → ACall
  | [.v (.string a0)] => ⟨(Int × (List Int) × Int), s_sTurnsOf a0, fun r => .tup [.v (.int .i64 r.1), .lst (.one (.i .i64)) r.2.1, .v (.int .i64 r.2.2)]⟩
  | _ => ACall.fail
theorem f_sTurnsOf_sound : Sound Tryd.prog 7 c_sTurnsOf := by
  refine sound_good f_sTurnsOf_ctx f_sTurnsOf_LV 1 Tryd.func7 (c := f_sTurnsOf_c) (by kernel_rfl) (rv := f_sTurnsOf_rv) (by kernel_rfl) (by kernel_rfl) (by kernel_rfl) (by kernel_rfl) fun rs => ?_
  unfold c_sTurnsOf
  split
  · rename_i a0; intro v h; exact ⟨rfl, l_sTurnsOf v, rfl, (f_sTurnsOf_top a0 _).trans (s_sTurnsOf_ok a0 v h)⟩
  · intro v h; cases h

/-! ### function 47: loop.example/g01322/impl.within -/
noncomputable def f_iwithin_c : Code := match Tryd.f47.body with | some c => c | none => .skip
noncomputable def f_iwithin_X : Ctx := ⟨TT, phiOf [], noPsi, noXi⟩
def f_iwithin_LV : List (Nat × Keep) := []
def f_iwithin_rv : List ResultVar := [.tmp 6]
noncomputable def f_iwithin_L (r : List A) : Nat → AS → Option (List A) := L f_iwithin_X (cnOf f_iwithin_LV) f_iwithin_c (K0 TT f_iwithin_rv) r
theorem f_iwithin_ctx : CtxOK Tryd.prog f_iwithin_X := ctx_of tab mix trivial
noncomputable def s_iwithin (a0 : Int) (a1 : Int) (a2 : Int) : Bool := (cond (decide (a1 ≤ a0)) (decide (a0 ≤ a2)) false)
theorem f_iwithin_top (a0 : Int) (a1 : Int) (a2 : Int) (r : List A) : ev f_iwithin_X (lpc (cnOf f_iwithin_LV) (f_iwithin_L r)) f_iwithin_c (K0 TT f_iwithin_rv) (enter [.v (.int .i64 a0), .v (.int .i64 a1), .v (.int .i64 a2)]) = (cond (decide (a1 ≤ a0)) (some [.v (.bool (decide (a0 ≤ a2)))]) (some [.v (.bool false)])) := by kernel_rfl
noncomputable def l_iwithin (r : Bool) : List A := [.v (.bool r)]
theorem s_iwithin_ok (a0 : Int) (a1 : Int) (a2 : Int) : (cond (decide (a1 ≤ a0)) (some [.v (.bool (decide (a0 ≤ a2)))]) (some [.v (.bool false)])) = some (l_iwithin (s_iwithin a0 a1 a2)) := by
  unfold s_iwithin
  exact (cond_app (fun x => some (l_iwithin x)) rfl rfl)
noncomputable def c_iwithin : List A → ACall
  | [.v (.int .i64 a0), .v (.int .i64 a1), .v (.int .i64 a2)] => ⟨Bool, some (s_iwithin a0 a1 a2), fun r => .one (.v (.bool r))⟩
  | _ => ACall.fail
theorem f_iwithin_sound : Sound Tryd.prog 47 c_iwithin := by
  refine sound_good f_iwithin_ctx f_iwithin_LV 3 Tryd.func47 (c := f_iwithin_c) (by kernel_rfl) (rv := f_iwithin_rv) (by kernel_rfl) (by kernel_rfl) (by kernel_rfl) (by kernel_rfl) fun rs => ?_
  unfold c_iwithin
  split
  · rename_i a0 a1 a2; intro v h; cases h; exact ⟨rfl, l_iwithin (s_iwithin a0 a1 a2), rfl, (f_iwithin_top a0 a1 a2 _).trans (s_iwithin_ok a0 a1 a2)⟩
  · intro v h; cases h

/-! ### function 43: loop.example/g01322/impl.isLong -/
noncomputable def f_iisLong_c : Code := match Tryd.f43.body with | some c => c | none => .skip
noncomputable def f_iisLong_X : Ctx := ⟨TT, phiOf [(47, c_iwithin)], noPsi, noXi⟩
def f_iisLong_LV : List (Nat × Keep) := []
def f_iisLong_rv : List ResultVar := [.tmp 2]
noncomputable def f_iisLong_L (r : List A) : Nat → AS → Option (List A) := L f_iisLong_X (cnOf f_iisLong_LV) f_iisLong_c (K0 TT f_iisLong_rv) r
theorem f_iisLong_ctx : CtxOK Tryd.prog f_iisLong_X := ctx_of tab mix ⟨⟨Tryd.call47, f_iwithin_sound⟩, trivial⟩
noncomputable def s_iisLong (a0 : Int) : Bool := (s_iwithin a0 1 2000)
theorem f_iisLong_top (a0 : Int) (r : List A) : ev f_iisLong_X (lpc (cnOf f_iisLong_LV) (f_iisLong_L r)) f_iisLong_c (K0 TT f_iisLong_rv) (enter [.v (.int .i64 a0)]) = (some [.v (.bool (s_iwithin a0 1 2000))]) := by kernel_rfl
noncomputable def l_iisLong (r : Bool) : List A := [.v (.bool r)]
theorem s_iisLong_ok (a0 : Int) : (some [.v (.bool (s_iwithin a0 1 2000))]) = some (l_iisLong (s_iisLong a0)) := by
  unfold s_iisLong
  exact rfl
noncomputable def c_iisLong : List A → ACall
  | [.v (.int .i64 a0)] => ⟨Bool, some (s_iisLong a0), fun r => .one (.v (.bool r))⟩
  | _ => ACall.fail
theorem f_iisLong_sound : Sound Tryd.prog 43 c_iisLong := by
  refine sound_good f_iisLong_ctx f_iisLong_LV 1 Tryd.func43 (c := f_iisLong_c) (by kernel_rfl) (rv := f_iisLong_rv) (by kernel_rfl) (by kernel_rfl) (by kernel_rfl) (by kernel_rfl) fun rs => ?_
  unfold c_iisLong
  split
  · rename_i a0; intro v h; cases h; exact ⟨rfl, l_iisLong (s_iisLong a0), rfl, (f_iisLong_top a0 _).trans (s_iisLong_ok a0)⟩
  · intro v h; cases h

/-! ### function 26: loop.example/g01322/impl.straights -/
noncomputable def f_istraights_c : Code := match Tryd.f26.body with | some c => c | none => .skip
noncomputable def f_istraights_X : Ctx := ⟨TT, phiOf [(43, c_iisLong), (44, c_stringsTrim), (45, c_stringsIndexByte)], noPsi, noXi⟩
def f_istraights_LV : List (Nat × Keep) := [(5, ([0, 4, 17, 18], [], []))]
def f_istraights_rv : List ResultVar := [.tmp 2, .tmp 3]
noncomputable def f_istraights_L (r : List A) : Nat → AS → Option (List A) := L f_istraights_X (cnOf f_istraights_LV) f_istraights_c (K0 TT f_istraights_rv) r
theorem f_istraights_ctx : CtxOK Tryd.prog f_istraights_X := ctx_of tab mix ⟨⟨Tryd.call43, f_iisLong_sound⟩, ⟨Tryd.call44, f_stringsTrim_sound⟩, ⟨Tryd.call45, f_stringsIndexByte_sound⟩, trivial⟩
noncomputable def f_istraights_s5 (x0 : ByteArray) (x1 : Int) (x2 : Int) (x3 : (List Int)) : AS := ⟨[(0, .a (.v (.string x0))), (4, .a (.sl 0)), (17, .a (.v (.int .i64 x1))), (18, .a (.v (.int .i64 x2)))], [(0, some ⟨true, .arr (.one (.i .i64)) x3⟩)], 1⟩
noncomputable def l_istraights (r : ((List Int) × Bool)) : List A := [.lst (.one (.i .i64)) r.1, .v (.bool r.2)]
theorem f_istraights_step5 (x0 : ByteArray) (x1 : Int) (x2 : Int) (x3 : (List Int)) (r : List A) (h : (cond (decide (x2 < x1)) (cond (inB x2 x0.size) (cond (decide ((s_stringsIndexByte (⟨#[110, 101, 115, 119]⟩ : ByteArray) (byteAt x0 (Int.toNat x2))) < 0)) (some [.lst (.one (.i .i64)) [], .v (.bool false)]) (cond (decide (x2 > 0)) (cond (inB x2 x0.size) (cond (inB (IntKind.wrap .i64 (x2 - 1)) x0.size) (cond ((byteAt x0 (Int.toNat x2)) == (byteAt x0 (Int.toNat (IntKind.wrap .i64 (x2 - 1))))) (cond (inB (IntKind.wrap .i64 (((List.length x3 : Nat) : Int) - 1)) (List.length x3)) (cond (inB (IntKind.wrap .i64 (((List.length x3 : Nat) : Int) - 1)) (List.length x3)) (f_istraights_L r 5 (f_istraights_s5 x0 x1 (IntKind.wrap .i64 (x2 + 1)) (List.set x3 (Int.toNat (IntKind.wrap .i64 (((List.length x3 : Nat) : Int) - 1))) (IntKind.wrap .i64 ((List.getD x3 (Int.toNat (IntKind.wrap .i64 (((List.length x3 : Nat) : Int) - 1))) 0) + 1))))) none) none) (cond (fits ((List.length (x3 : List Int) + List.length ([1] : List Int)) * 8)) (f_istraights_L r 5 (f_istraights_s5 x0 x1 (IntKind.wrap .i64 (x2 + 1)) (x3 ++ [1]))) none)) none) none) (cond (fits ((List.length (x3 : List Int) + List.length ([1] : List Int)) * 8)) (f_istraights_L r 5 (f_istraights_s5 x0 x1 (IntKind.wrap .i64 (x2 + 1)) (x3 ++ [1]))) none))) none) (some [.lst (.one (.i .i64)) x3, .v (.bool true)])) = some r) : f_istraights_L r 5 (f_istraights_s5 x0 x1 x2 x3) = some r :=
  step_of' h (by kernel_rfl)
noncomputable def f_istraights_n5 (x0 : ByteArray) (x1 : Int) (x2 : Int) (x3 : (List Int)) : Option ((ByteArray × Int × Int × (List Int)) ⊕ ((List Int) × Bool)) := (cond (decide (x2 < x1)) (cond (inB x2 x0.size) (cond (decide ((s_stringsIndexByte (⟨#[110, 101, 115, 119]⟩ : ByteArray) (byteAt x0 (Int.toNat x2))) < 0)) (some (Sum.inr ([], false))) (cond (decide (x2 > 0)) (cond (inB x2 x0.size) (cond (inB (IntKind.wrap .i64 (x2 - 1)) x0.size) (cond ((byteAt x0 (Int.toNat x2)) == (byteAt x0 (Int.toNat (IntKind.wrap .i64 (x2 - 1))))) (cond (inB (IntKind.wrap .i64 (((List.length x3 : Nat) : Int) - 1)) (List.length x3)) (cond (inB (IntKind.wrap .i64 (((List.length x3 : Nat) : Int) - 1)) (List.length x3)) (some (Sum.inl (x0, x1, (IntKind.wrap .i64 (x2 + 1)), (List.set x3 (Int.toNat (IntKind.wrap .i64 (((List.length x3 : Nat) : Int) - 1))) (IntKind.wrap .i64 ((List.getD x3 (Int.toNat (IntKind.wrap .i64 (((List.length x3 : Nat) : Int) - 1))) 0) + 1)))))) none) none) (cond (fits ((List.length (x3 : List Int) + List.length ([1] : List Int)) * 8)) (some (Sum.inl (x0, x1, (IntKind.wrap .i64 (x2 + 1)), (x3 ++ [1])))) none)) none) none) (cond (fits ((List.length (x3 : List Int) + List.length ([1] : List Int)) * 8)) (some (Sum.inl (x0, x1, (IntKind.wrap .i64 (x2 + 1)), (x3 ++ [1])))) none))) none) (some (Sum.inr (x3, true))))
noncomputable def f_istraights_run5 (x : (ByteArray × Int × Int × (List Int))) : Option ((List Int) × Bool) := iter (fun x => f_istraights_n5 x.1 x.2.1 x.2.2.1 x.2.2.2) FU x
noncomputable def f_istraights_G5 (r : List A) (x : (ByteArray × Int × Int × (List Int))) : Prop := f_istraights_L r 5 (f_istraights_s5 x.1 x.2.1 x.2.2.1 x.2.2.2) = some r
noncomputable def f_istraights_S5 (r : List A) : ((List Int) × Bool) → Prop := fun v => r = l_istraights v
theorem f_istraights_go5 (r : List A) : ∀ x, sem (f_istraights_S5 r) (f_istraights_run5 x) → f_istraights_G5 r x :=
  fun x => iter_sound (step := fun x => f_istraights_n5 x.1 x.2.1 x.2.2.1 x.2.2.2) (fun x h => by
    unfold f_istraights_n5 at h
    exact f_istraights_step5 x.1 x.2.1 x.2.2.1 x.2.2.2 r ((sem_cond h (fun h => (sem_cond h (fun h => (sem_cond h (fun h => sem_got h fun q => some_eq q) (fun h => (sem_cond h (fun h => (sem_cond h (fun h => (sem_cond h (fun h => (sem_cond h (fun h => (sem_cond h (fun h => (sem_cond h (fun h => sem_got h fun q => q) (fun h => sem_none h))) (fun h => sem_none h))) (fun h => (sem_cond h (fun h => sem_got h fun q => q) (fun h => sem_none h))))) (fun h => sem_none h))) (fun h => sem_none h))) (fun h => (sem_cond h (fun h => sem_got h fun q => q) (fun h => sem_none h))))))) (fun h => sem_none h))) (fun h => sem_got h fun q => some_eq q)))) FU x
noncomputable def s_istraights (a0 : ByteArray) : Option ((List Int) × Bool) := (cond (!(s_iisLong ((a0.size : Nat) : Int))) (some ([], false)) (Option.bind (s_stringsTrim a0 (⟨#[110, 101, 115, 119]⟩ : ByteArray)) fun r1 => (cond (!(r1.toList == (⟨#[]⟩ : ByteArray).toList)) (some ([], false)) (f_istraights_run5 (a0, ((a0.size : Nat) : Int), 0, [])))))
theorem f_istraights_top (a0 : ByteArray) (r : List A) : ev f_istraights_X (lpc (cnOf f_istraights_LV) (f_istraights_L r)) f_istraights_c (K0 TT f_istraights_rv) (enter [.v (.string a0)]) = (cond (!(s_iisLong ((a0.size : Nat) : Int))) (some [.lst (.one (.i .i64)) [], .v (.bool false)]) (Option.bind (s_stringsTrim a0 (⟨#[110, 101, 115, 119]⟩ : ByteArray)) fun r1 => (cond (!(r1.toList == (⟨#[]⟩ : ByteArray).toList)) (some [.lst (.one (.i .i64)) [], .v (.bool false)]) (f_istraights_L r 5 (f_istraights_s5 a0 ((a0.size : Nat) : Int) 0 []))))) := by kernel_rfl
theorem s_istraights_ok (a0 : ByteArray) (v : ((List Int) × Bool)) (h : s_istraights a0 = some v) : (cond (!(s_iisLong ((a0.size : Nat) : Int))) (some [.lst (.one (.i .i64)) [], .v (.bool false)]) (Option.bind (s_stringsTrim a0 (⟨#[110, 101, 115, 119]⟩ : ByteArray)) fun r1 => (cond (!(r1.toList == (⟨#[]⟩ : ByteArray).toList)) (some [.lst (.one (.i .i64)) [], .v (.bool false)]) (f_istraights_L (l_istraights v) 5 (f_istraights_s5 a0 ((a0.size : Nat) : Int) 0 []))))) = some (l_istraights v) := by
  unfold s_istraights at h
  have go : ∀ r, sem (fun v => r = l_istraights v) ((cond (!(s_iisLong ((a0.size : Nat) : Int))) (some ([], false)) (Option.bind (s_stringsTrim a0 (⟨#[110, 101, 115, 119]⟩ : ByteArray)) fun r1 => (cond (!(r1.toList == (⟨#[]⟩ : ByteArray).toList)) (some ([], false)) (f_istraights_run5 (a0, ((a0.size : Nat) : Int), 0, [])))))) → (cond (!(s_iisLong ((a0.size : Nat) : Int))) (some [.lst (.one (.i .i64)) [], .v (.bool false)]) (Option.bind (s_stringsTrim a0 (⟨#[110, 101, 115, 119]⟩ : ByteArray)) fun r1 => (cond (!(r1.toList == (⟨#[]⟩ : ByteArray).toList)) (some [.lst (.one (.i .i64)) [], .v (.bool false)]) (f_istraights_L r 5 (f_istraights_s5 a0 ((a0.size : Nat) : Int) 0 []))))) = some r := fun r h => (sem_cond h (fun h => sem_got h fun q => some_eq q) (fun h => (sem_bind h fun r1 h => (sem_cond h (fun h => sem_got h fun q => some_eq q) (fun h => f_istraights_go5 r _ h)))))
  exact go (l_istraights v) ⟨v, h, rfl⟩
noncomputable def c_istraights : List A → ACall
  | [.v (.string a0)] => ⟨((List Int) × Bool), s_istraights a0, fun r => .tup [.lst (.one (.i .i64)) r.1, .v (.bool r.2)]⟩
  | _ => ACall.fail
theorem f_istraights_sound : Sound Tryd.prog 26 c_istraights := by
  refine sound_good f_istraights_ctx f_istraights_LV 1 Tryd.func26 (c := f_istraights_c) (by kernel_rfl) (rv := f_istraights_rv) (by kernel_rfl) (by kernel_rfl) (by kernel_rfl) (by kernel_rfl) fun rs => ?_
  unfold c_istraights
  split
  · rename_i a0; intro v h; exact ⟨rfl, l_istraights v, rfl, (f_istraights_top a0 _).trans (s_istraights_ok a0 v h)⟩
  · intro v h; cases h

/-! ### function 8: loop.example/g01322/impl.TurnsOf -/
noncomputable def f_iTurnsOf_c : Code := match Tryd.f8.body with | some c => c | none => .skip
noncomputable def f_iTurnsOf_X : Ctx := ⟨TT, phiOf [(26, c_istraights)], noPsi, noXi⟩
def f_iTurnsOf_LV : List (Nat × Keep) := []
def f_iTurnsOf_rv : List ResultVar := [.tmp 2, .tmp 3, .tmp 4]
noncomputable def f_iTurnsOf_L (r : List A) : Nat → AS → Option (List A) := L f_iTurnsOf_X (cnOf f_iTurnsOf_LV) f_iTurnsOf_c (K0 TT f_iTurnsOf_rv) r
theorem f_iTurnsOf_ctx : CtxOK Tryd.prog f_iTurnsOf_X := ctx_of tab mix ⟨⟨Tryd.call26, f_istraights_sound⟩, trivial⟩
noncomputable def s_iTurnsOf (a0 : ByteArray) : Option (Int × (List Int) × Int) := (Option.bind (s_istraights a0) fun r1 => (cond (!r1.2) (some (0, [], 5)) (some ((IntKind.wrap .i64 (((List.length r1.1 : Nat) : Int) - 1)), (r1.1), 0))))
theorem f_iTurnsOf_top (a0 : ByteArray) (r : List A) : ev f_iTurnsOf_X (lpc (cnOf f_iTurnsOf_LV) (f_iTurnsOf_L r)) f_iTurnsOf_c (K0 TT f_iTurnsOf_rv) (enter [.v (.string a0)]) = (Option.bind (s_istraights a0) fun r1 => (cond (!r1.2) (some [.v (.int .i64 0), .lst (.one (.i .i64)) [], .v (.int .i64 5)]) (some [.v (.int .i64 (IntKind.wrap .i64 (((List.length r1.1 : Nat) : Int) - 1))), .lst (.one (.i .i64)) r1.1, .v (.int .i64 0)]))) := by kernel_rfl
noncomputable def l_iTurnsOf (r : (Int × (List Int) × Int)) : List A := [.v (.int .i64 r.1), .lst (.one (.i .i64)) r.2.1, .v (.int .i64 r.2.2)]
theorem s_iTurnsOf_ok (a0 : ByteArray) (v : (Int × (List Int) × Int)) (h : s_iTurnsOf a0 = some v) : (Option.bind (s_istraights a0) fun r1 => (cond (!r1.2) (some [.v (.int .i64 0), .lst (.one (.i .i64)) [], .v (.int .i64 5)]) (some [.v (.int .i64 (IntKind.wrap .i64 (((List.length r1.1 : Nat) : Int) - 1))), .lst (.one (.i .i64)) r1.1, .v (.int .i64 0)]))) = some (l_iTurnsOf v) := by
  have e : (Option.bind (s_istraights a0) fun r1 => (cond (!r1.2) (some [.v (.int .i64 0), .lst (.one (.i .i64)) [], .v (.int .i64 5)]) (some [.v (.int .i64 (IntKind.wrap .i64 (((List.length r1.1 : Nat) : Int) - 1))), .lst (.one (.i .i64)) r1.1, .v (.int .i64 0)]))) = Option.map l_iTurnsOf (s_iTurnsOf a0) := by
    unfold s_iTurnsOf
    exact (bind_app fun _ => (cond_app (Option.map l_iTurnsOf) rfl rfl))
  rw [e, h]; rfl
noncomputable def c_iTurnsOf : List A → ACall
  | [.v (.string a0)] => ⟨(Int × (List Int) × Int), s_iTurnsOf a0, fun r => .tup [.v (.int .i64 r.1), .lst (.one (.i .i64)) r.2.1, .v (.int .i64 r.2.2)]⟩
  | _ => ACall.fail
theorem f_iTurnsOf_sound : Sound Tryd.prog 8 c_iTurnsOf := by
  refine sound_good f_iTurnsOf_ctx f_iTurnsOf_LV 1 Tryd.func8 (c := f_iTurnsOf_c) (by kernel_rfl) (rv := f_iTurnsOf_rv) (by kernel_rfl) (by kernel_rfl) (by kernel_rfl) (by kernel_rfl) fun rs => ?_
  unfold c_iTurnsOf
  split
  · rename_i a0; intro v h; exact ⟨rfl, l_iTurnsOf v, rfl, (f_iTurnsOf_top a0 _).trans (s_iTurnsOf_ok a0 v h)⟩
  · intro v h; cases h

/-! ### function 9: loop.example/g01322/laws.eqInt64S -/
noncomputable def f_weqInt64S_c : Code := match Tryd.f9.body with | some c => c | none => .skip
noncomputable def f_weqInt64S_X : Ctx := ⟨TT, phiOf [], noPsi, noXi⟩
def f_weqInt64S_LV : List (Nat × Keep) := [(4, ([0, 1, 5], [], []))]
def f_weqInt64S_rv : List ResultVar := [.tmp 4]
noncomputable def f_weqInt64S_L (r : List A) : Nat → AS → Option (List A) := L f_weqInt64S_X (cnOf f_weqInt64S_LV) f_weqInt64S_c (K0 TT f_weqInt64S_rv) r
theorem f_weqInt64S_ctx : CtxOK Tryd.prog f_weqInt64S_X := ctx_of tab mix trivial
noncomputable def f_weqInt64S_s4 (x0 : Int) (x1 : (List Int)) (x2 : (List Int)) : AS := ⟨[(0, .a (.sl 0)), (1, .a (.sl 1)), (5, .a (.v (.int .i64 x0)))], [(0, some ⟨false, .arr (.one (.i .i64)) x1⟩), (1, some ⟨false, .arr (.one (.i .i64)) x2⟩)], 2⟩
noncomputable def l_weqInt64S (r : Bool) : List A := [.v (.bool r)]
theorem f_weqInt64S_step4 (x0 : Int) (x1 : (List Int)) (x2 : (List Int)) (r : List A) (h : (cond (decide (x0 < ((List.length x1 : Nat) : Int))) (cond (inB x0 (List.length x1)) (cond (inB x0 (List.length x2)) (cond ((List.getD x1 (Int.toNat x0) 0) != (List.getD x2 (Int.toNat x0) 0)) (some [.v (.bool false)]) (f_weqInt64S_L r 4 (f_weqInt64S_s4 (IntKind.wrap .i64 (x0 + 1)) x1 x2))) none) none) (some [.v (.bool true)])) = some r) : f_weqInt64S_L r 4 (f_weqInt64S_s4 x0 x1 x2) = some r :=
  step_of' h (by kernel_rfl)
noncomputable def f_weqInt64S_n4 (x0 : Int) (x1 : (List Int)) (x2 : (List Int)) : Option ((Int × (List Int) × (List Int)) ⊕ Bool) := (cond (decide (x0 < ((List.length x1 : Nat) : Int))) (cond (inB x0 (List.length x1)) (cond (inB x0 (List.length x2)) (cond ((List.getD x1 (Int.toNat x0) 0) != (List.getD x2 (Int.toNat x0) 0)) (some (Sum.inr false)) (some (Sum.inl ((IntKind.wrap .i64 (x0 + 1)), x1, x2)))) none) none) (some (Sum.inr true)))
noncomputable def f_weqInt64S_run4 (x : (Int × (List Int) × (List Int))) : Option Bool := iter (fun x => f_weqInt64S_n4 x.1 x.2.1 x.2.2) FU x
noncomputable def f_weqInt64S_G4 (r : List A) (x : (Int × (List Int) × (List Int))) : Prop := f_weqInt64S_L r 4 (f_weqInt64S_s4 x.1 x.2.1 x.2.2) = some r
noncomputable def f_weqInt64S_S4 (r : List A) : Bool → Prop := fun v => r = l_weqInt64S v
theorem f_weqInt64S_go4 (r : List A) : ∀ x, sem (f_weqInt64S_S4 r) (f_weqInt64S_run4 x) → f_weqInt64S_G4 r x :=
  fun x => iter_sound (step := fun x => f_weqInt64S_n4 x.1 x.2.1 x.2.2) (fun x h => by
    unfold f_weqInt64S_n4 at h
    exact f_weqInt64S_step4 x.1 x.2.1 x.2.2 r ((sem_cond h (fun h => (sem_cond h (fun h => (sem_cond h (fun h => (sem_cond h (fun h => sem_got h fun q => some_eq q) (fun h => sem_got h fun q => q))) (fun h => sem_none h))) (fun h => sem_none h))) (fun h => sem_got h fun q => some_eq q)))) FU x
noncomputable def s_weqInt64S (a0 : (List Int)) (a1 : (List Int)) : Option Bool := (cond (((List.length a0 : Nat) : Int) != ((List.length a1 : Nat) : Int)) (some false) (f_weqInt64S_run4 (0, a0, a1)))
theorem f_weqInt64S_top (a0 : (List Int)) (a1 : (List Int)) (r : List A) : ev f_weqInt64S_X (lpc (cnOf f_weqInt64S_LV) (f_weqInt64S_L r)) f_weqInt64S_c (K0 TT f_weqInt64S_rv) (enter [.lst (.one (.i .i64)) a0, .lst (.one (.i .i64)) a1]) = (cond (((List.length a0 : Nat) : Int) != ((List.length a1 : Nat) : Int)) (some [.v (.bool false)]) (f_weqInt64S_L r 4 (f_weqInt64S_s4 0 a0 a1))) := by kernel_rfl
theorem s_weqInt64S_ok (a0 : (List Int)) (a1 : (List Int)) (v : Bool) (h : s_weqInt64S a0 a1 = some v) : (cond (((List.length a0 : Nat) : Int) != ((List.length a1 : Nat) : Int)) (some [.v (.bool false)]) (f_weqInt64S_L (l_weqInt64S v) 4 (f_weqInt64S_s4 0 a0 a1))) = some (l_weqInt64S v) := by
  unfold s_weqInt64S at h
  have go : ∀ r, sem (fun v => r = l_weqInt64S v) ((cond (((List.length a0 : Nat) : Int) != ((List.length a1 : Nat) : Int)) (some false) (f_weqInt64S_run4 (0, a0, a1)))) → (cond (((List.length a0 : Nat) : Int) != ((List.length a1 : Nat) : Int)) (some [.v (.bool false)]) (f_weqInt64S_L r 4 (f_weqInt64S_s4 0 a0 a1))) = some r := fun r h => (sem_cond h (fun h => sem_got h fun q => some_eq q) (fun h => f_weqInt64S_go4 r _ h))
  exact go (l_weqInt64S v) ⟨v, h, rfl⟩
noncomputable def c_weqInt64S : List A → ACall
  | [.lst (.one (.i .i64)) a0, .lst (.one (.i .i64)) a1] => ⟨Bool, s_weqInt64S a0 a1, fun r => .one (.v (.bool r))⟩
  | _ => ACall.fail
theorem f_weqInt64S_sound : Sound Tryd.prog 9 c_weqInt64S := by
  refine sound_good f_weqInt64S_ctx f_weqInt64S_LV 2 Tryd.func9 (c := f_weqInt64S_c) (by kernel_rfl) (rv := f_weqInt64S_rv) (by kernel_rfl) (by kernel_rfl) (by kernel_rfl) (by kernel_rfl) fun rs => ?_
  unfold c_weqInt64S
  split
  · rename_i a0 a1; intro v h; exact ⟨rfl, l_weqInt64S v, rfl, (f_weqInt64S_top a0 a1 _).trans (s_weqInt64S_ok a0 a1 v h)⟩
  · intro v h; cases h

/-! ### function 11: loop.example/g01322/laws.heldInt64S -/
noncomputable def f_wheldInt64S_c : Code := match Tryd.f11.body with | some c => c | none => .skip
noncomputable def f_wheldInt64S_X : Ctx := ⟨TT, phiOf [], noPsi, noXi⟩
def f_wheldInt64S_LV : List (Nat × Keep) := [(2, ([0, 1, 5], [], []))]
def f_wheldInt64S_rv : List ResultVar := [.tmp 4]
noncomputable def f_wheldInt64S_L (r : List A) : Nat → AS → Option (List A) := L f_wheldInt64S_X (cnOf f_wheldInt64S_LV) f_wheldInt64S_c (K0 TT f_wheldInt64S_rv) r
theorem f_wheldInt64S_ctx : CtxOK Tryd.prog f_wheldInt64S_X := ctx_of tab mix trivial
noncomputable def f_wheldInt64S_s2 (x0 : Int) (x1 : Int) (x2 : (List Int)) : AS := ⟨[(0, .a (.sl 0)), (1, .a (.v (.int .i64 x0))), (5, .a (.v (.int .i64 x1)))], [(0, some ⟨false, .arr (.one (.i .i64)) x2⟩)], 1⟩
noncomputable def l_wheldInt64S (r : Int) : List A := [.v (.int .i64 r)]
theorem f_wheldInt64S_step2 (x0 : Int) (x1 : Int) (x2 : (List Int)) (r : List A) (h : (cond (decide (x1 < ((List.length x2 : Nat) : Int))) (cond (inB x1 (List.length x2)) (cond ((List.getD x2 (Int.toNat x1) 0) != x0) (some [.v (.int .i64 (-1))]) (f_wheldInt64S_L r 2 (f_wheldInt64S_s2 (IntKind.wrap .i64 (x0 + 1)) (IntKind.wrap .i64 (x1 + 1)) x2))) none) (some [.v (.int .i64 x0)])) = some r) : f_wheldInt64S_L r 2 (f_wheldInt64S_s2 x0 x1 x2) = some r :=
  step_of' h (by kernel_rfl)
noncomputable def f_wheldInt64S_n2 (x0 : Int) (x1 : Int) (x2 : (List Int)) : Option ((Int × Int × (List Int)) ⊕ Int) := (cond (decide (x1 < ((List.length x2 : Nat) : Int))) (cond (inB x1 (List.length x2)) (cond ((List.getD x2 (Int.toNat x1) 0) != x0) (some (Sum.inr (-1))) (some (Sum.inl ((IntKind.wrap .i64 (x0 + 1)), (IntKind.wrap .i64 (x1 + 1)), x2)))) none) (some (Sum.inr x0)))
noncomputable def f_wheldInt64S_run2 (x : (Int × Int × (List Int))) : Option Int := iter (fun x => f_wheldInt64S_n2 x.1 x.2.1 x.2.2) FU x
noncomputable def f_wheldInt64S_G2 (r : List A) (x : (Int × Int × (List Int))) : Prop := f_wheldInt64S_L r 2 (f_wheldInt64S_s2 x.1 x.2.1 x.2.2) = some r
noncomputable def f_wheldInt64S_S2 (r : List A) : Int → Prop := fun v => r = l_wheldInt64S v
theorem f_wheldInt64S_go2 (r : List A) : ∀ x, sem (f_wheldInt64S_S2 r) (f_wheldInt64S_run2 x) → f_wheldInt64S_G2 r x :=
  fun x => iter_sound (step := fun x => f_wheldInt64S_n2 x.1 x.2.1 x.2.2) (fun x h => by
    unfold f_wheldInt64S_n2 at h
    exact f_wheldInt64S_step2 x.1 x.2.1 x.2.2 r ((sem_cond h (fun h => (sem_cond h (fun h => (sem_cond h (fun h => sem_got h fun q => some_eq q) (fun h => sem_got h fun q => q))) (fun h => sem_none h))) (fun h => sem_got h fun q => some_eq q)))) FU x
noncomputable def s_wheldInt64S (a0 : (List Int)) (a1 : Int) : Option Int := (f_wheldInt64S_run2 (a1, 0, a0))
theorem f_wheldInt64S_top (a0 : (List Int)) (a1 : Int) (r : List A) : ev f_wheldInt64S_X (lpc (cnOf f_wheldInt64S_LV) (f_wheldInt64S_L r)) f_wheldInt64S_c (K0 TT f_wheldInt64S_rv) (enter [.lst (.one (.i .i64)) a0, .v (.int .i64 a1)]) = (f_wheldInt64S_L r 2 (f_wheldInt64S_s2 a1 0 a0)) := by kernel_rfl
theorem s_wheldInt64S_ok (a0 : (List Int)) (a1 : Int) (v : Int) (h : s_wheldInt64S a0 a1 = some v) : (f_wheldInt64S_L (l_wheldInt64S v) 2 (f_wheldInt64S_s2 a1 0 a0)) = some (l_wheldInt64S v) := by
  unfold s_wheldInt64S at h
  have go : ∀ r, sem (fun v => r = l_wheldInt64S v) ((f_wheldInt64S_run2 (a1, 0, a0))) → (f_wheldInt64S_L r 2 (f_wheldInt64S_s2 a1 0 a0)) = some r := fun r h => f_wheldInt64S_go2 r _ h
  exact go (l_wheldInt64S v) ⟨v, h, rfl⟩
noncomputable def c_wheldInt64S : List A → ACall
  | [.lst (.one (.i .i64)) a0, .v (.int .i64 a1)] => ⟨Int, s_wheldInt64S a0 a1, fun r => .one (.v (.int .i64 r))⟩
  | _ => ACall.fail
theorem f_wheldInt64S_sound : Sound Tryd.prog 11 c_wheldInt64S := by
  refine sound_good f_wheldInt64S_ctx f_wheldInt64S_LV 2 Tryd.func11 (c := f_wheldInt64S_c) (by kernel_rfl) (rv := f_wheldInt64S_rv) (by kernel_rfl) (by kernel_rfl) (by kernel_rfl) (by kernel_rfl) fun rs => ?_
  unfold c_wheldInt64S
  split
  · rename_i a0 a1; intro v h; exact ⟨rfl, l_wheldInt64S v, rfl, (f_wheldInt64S_top a0 a1 _).trans (s_wheldInt64S_ok a0 a1 v h)⟩
  · intro v h; cases h

/-! ### function 3: loop.example/g01322/laws.FnExactTurnsOf -/
noncomputable def f_wFnExactTurnsOf_c : Code := match Tryd.f3.body with | some c => c | none => .skip
noncomputable def f_wFnExactTurnsOf_X : Ctx := ⟨TT, phiOf [(11, c_wheldInt64S), (7, c_sTurnsOf), (8, c_iTurnsOf), (9, c_weqInt64S)], (psiOf [(10, u_wmarkInt64S)]), noXi⟩
def f_wFnExactTurnsOf_LV : List (Nat × Keep) := []
def f_wFnExactTurnsOf_rv : List ResultVar := [.tmp 2]
noncomputable def f_wFnExactTurnsOf_L (r : List A) : Nat → AS → Option (List A) := L f_wFnExactTurnsOf_X (cnOf f_wFnExactTurnsOf_LV) f_wFnExactTurnsOf_c (K0 TT f_wFnExactTurnsOf_rv) r
theorem f_wFnExactTurnsOf_ctx : CtxOK Tryd.prog f_wFnExactTurnsOf_X := ctx_ofH tab mix (l := [(11, c_wheldInt64S), (7, c_sTurnsOf), (8, c_iTurnsOf), (9, c_weqInt64S)]) ⟨⟨Tryd.call11, f_wheldInt64S_sound⟩, ⟨Tryd.call7, f_sTurnsOf_sound⟩, ⟨Tryd.call8, f_iTurnsOf_sound⟩, ⟨Tryd.call9, f_weqInt64S_sound⟩, trivial⟩ (psi_ok (l := [(10, u_wmarkInt64S)]) ⟨⟨Tryd.call10, f_wmarkInt64S_sound⟩, trivial⟩) xi_no
noncomputable def s_wFnExactTurnsOf (a0 : ByteArray) : Option Bool := (cond (decide (((a0.size : Nat) : Int) > 1048576)) (some true) (Option.bind (s_sTurnsOf a0) fun r1 => (Option.bind (s_iTurnsOf a0) fun r2 => (cond (r2.1 != r1.1) (some false) (Option.bind (s_weqInt64S (r2.2.1) (r1.2.1)) fun r3 => (cond (!r3) (some false) (cond (r2.2.2 != r1.2.2) (some false) (Option.bind (s_wmarkInt64S (r2.2.1) 1) fun r4 => (Option.bind (s_wheldInt64S (r4.2) 1) fun r5 => (cond (decide (r5 < 0)) (some false) (cond (r5 != r4.1) (some false) (Option.bind (s_iTurnsOf a0) fun r6 => (cond (r6.1 != r1.1) (some false) (Option.bind (s_weqInt64S (r6.2.1) (r1.2.1)) fun r7 => (cond (!r7) (some false) (cond (r6.2.2 != r1.2.2) (some false) (Option.bind (s_wheldInt64S (r4.2) 1) fun r8 => (cond (decide (r8 < 0)) (some false) (cond (r8 != r4.1) (some false) (some true))))))))))))))))))))
theorem f_wFnExactTurnsOf_top (a0 : ByteArray) (r : List A) : ev f_wFnExactTurnsOf_X (lpc (cnOf f_wFnExactTurnsOf_LV) (f_wFnExactTurnsOf_L r)) f_wFnExactTurnsOf_c (K0 TT f_wFnExactTurnsOf_rv) (enter [.v (.string a0)]) = (cond (decide (((a0.size : Nat) : Int) > 1048576)) (some [.v (.bool true)]) (Option.bind (s_sTurnsOf a0) fun r1 => (Option.bind (s_iTurnsOf a0) fun r2 => (cond (r2.1 != r1.1) (some [.v (.bool false)]) (Option.bind (s_weqInt64S (r2.2.1) (r1.2.1)) fun r3 => (cond (!r3) (some [.v (.bool false)]) (cond (r2.2.2 != r1.2.2) (some [.v (.bool false)]) (Option.bind (s_wmarkInt64S (r2.2.1) 1) fun r4 => (Option.bind (s_wheldInt64S (r4.2) 1) fun r5 => (cond (decide (r5 < 0)) (some [.v (.bool false)]) (cond (r5 != r4.1) (some [.v (.bool false)]) (Option.bind (s_iTurnsOf a0) fun r6 => (cond (r6.1 != r1.1) (some [.v (.bool false)]) (Option.bind (s_weqInt64S (r6.2.1) (r1.2.1)) fun r7 => (cond (!r7) (some [.v (.bool false)]) (cond (r6.2.2 != r1.2.2) (some [.v (.bool false)]) (Option.bind (s_wheldInt64S (r4.2) 1) fun r8 => (cond (decide (r8 < 0)) (some [.v (.bool false)]) (cond (r8 != r4.1) (some [.v (.bool false)]) (some [.v (.bool true)])))))))))))))))))))) := by kernel_rfl
noncomputable def l_wFnExactTurnsOf (r : Bool) : List A := [.v (.bool r)]
theorem s_wFnExactTurnsOf_ok (a0 : ByteArray) (v : Bool) (h : s_wFnExactTurnsOf a0 = some v) : (cond (decide (((a0.size : Nat) : Int) > 1048576)) (some [.v (.bool true)]) (Option.bind (s_sTurnsOf a0) fun r1 => (Option.bind (s_iTurnsOf a0) fun r2 => (cond (r2.1 != r1.1) (some [.v (.bool false)]) (Option.bind (s_weqInt64S (r2.2.1) (r1.2.1)) fun r3 => (cond (!r3) (some [.v (.bool false)]) (cond (r2.2.2 != r1.2.2) (some [.v (.bool false)]) (Option.bind (s_wmarkInt64S (r2.2.1) 1) fun r4 => (Option.bind (s_wheldInt64S (r4.2) 1) fun r5 => (cond (decide (r5 < 0)) (some [.v (.bool false)]) (cond (r5 != r4.1) (some [.v (.bool false)]) (Option.bind (s_iTurnsOf a0) fun r6 => (cond (r6.1 != r1.1) (some [.v (.bool false)]) (Option.bind (s_weqInt64S (r6.2.1) (r1.2.1)) fun r7 => (cond (!r7) (some [.v (.bool false)]) (cond (r6.2.2 != r1.2.2) (some [.v (.bool false)]) (Option.bind (s_wheldInt64S (r4.2) 1) fun r8 => (cond (decide (r8 < 0)) (some [.v (.bool false)]) (cond (r8 != r4.1) (some [.v (.bool false)]) (some [.v (.bool true)])))))))))))))))))))) = some (l_wFnExactTurnsOf v) := by
  have e : (cond (decide (((a0.size : Nat) : Int) > 1048576)) (some [.v (.bool true)]) (Option.bind (s_sTurnsOf a0) fun r1 => (Option.bind (s_iTurnsOf a0) fun r2 => (cond (r2.1 != r1.1) (some [.v (.bool false)]) (Option.bind (s_weqInt64S (r2.2.1) (r1.2.1)) fun r3 => (cond (!r3) (some [.v (.bool false)]) (cond (r2.2.2 != r1.2.2) (some [.v (.bool false)]) (Option.bind (s_wmarkInt64S (r2.2.1) 1) fun r4 => (Option.bind (s_wheldInt64S (r4.2) 1) fun r5 => (cond (decide (r5 < 0)) (some [.v (.bool false)]) (cond (r5 != r4.1) (some [.v (.bool false)]) (Option.bind (s_iTurnsOf a0) fun r6 => (cond (r6.1 != r1.1) (some [.v (.bool false)]) (Option.bind (s_weqInt64S (r6.2.1) (r1.2.1)) fun r7 => (cond (!r7) (some [.v (.bool false)]) (cond (r6.2.2 != r1.2.2) (some [.v (.bool false)]) (Option.bind (s_wheldInt64S (r4.2) 1) fun r8 => (cond (decide (r8 < 0)) (some [.v (.bool false)]) (cond (r8 != r4.1) (some [.v (.bool false)]) (some [.v (.bool true)])))))))))))))))))))) = Option.map l_wFnExactTurnsOf (s_wFnExactTurnsOf a0) := by
    unfold s_wFnExactTurnsOf
    exact (cond_app (Option.map l_wFnExactTurnsOf) rfl (bind_app fun _ => (bind_app fun _ => (cond_app (Option.map l_wFnExactTurnsOf) rfl (bind_app fun _ => (cond_app (Option.map l_wFnExactTurnsOf) rfl (cond_app (Option.map l_wFnExactTurnsOf) rfl (bind_app fun _ => (bind_app fun _ => (cond_app (Option.map l_wFnExactTurnsOf) rfl (cond_app (Option.map l_wFnExactTurnsOf) rfl (bind_app fun _ => (cond_app (Option.map l_wFnExactTurnsOf) rfl (bind_app fun _ => (cond_app (Option.map l_wFnExactTurnsOf) rfl (cond_app (Option.map l_wFnExactTurnsOf) rfl (bind_app fun _ => (cond_app (Option.map l_wFnExactTurnsOf) rfl (cond_app (Option.map l_wFnExactTurnsOf) rfl rfl)))))))))))))))))))
  rw [e, h]; rfl
noncomputable def c_wFnExactTurnsOf : List A → ACall
  | [.v (.string a0)] => ⟨Bool, s_wFnExactTurnsOf a0, fun r => .one (.v (.bool r))⟩
  | _ => ACall.fail
theorem f_wFnExactTurnsOf_sound : Sound Tryd.prog 3 c_wFnExactTurnsOf := by
  refine sound_good f_wFnExactTurnsOf_ctx f_wFnExactTurnsOf_LV 1 Tryd.func3 (c := f_wFnExactTurnsOf_c) (by kernel_rfl) (rv := f_wFnExactTurnsOf_rv) (by kernel_rfl) (by kernel_rfl) (by kernel_rfl) (by kernel_rfl) fun rs => ?_
  unfold c_wFnExactTurnsOf
  split
  · rename_i a0; intro v h; exact ⟨rfl, l_wFnExactTurnsOf v, rfl, (f_wFnExactTurnsOf_top a0 _).trans (s_wFnExactTurnsOf_ok a0 v h)⟩
  · intro v h; cases h
end Go.RR
