/- Rows: lengths, joints, stones. -/
import Derived.Test.YtbmaolhjplapoaaGreatDoorVb
set_option linter.unusedVariables false
set_option linter.unusedSimpArgs false
set_option linter.unusedSectionVars false
set_option maxRecDepth 100000
namespace Go.RR
open Go Go.Proofs
noncomputable def f_q1m_c : Code := match Tryz.f77.body with | some c => c | none => .skip
noncomputable def f_q1m_X : Ctx := ⟨TT, phiOf [(84, c_q1n)], noPsi, noXi⟩
def f_q1m_LV : List (Nat × Keep) := []
def f_q1m_rv : List ResultVar := [.tmp 2]
noncomputable def f_q1m_L (r : List A) : Nat → AS → Option (List A) := L f_q1m_X (cnOf f_q1m_LV) f_q1m_c (K0 TT f_q1m_rv) r
theorem f_q1m_ctx : CtxOK Tryz.prog f_q1m_X := ctx_of tab mix ⟨⟨Tryz.call84, f_q1n_sound⟩, trivial⟩
noncomputable def s_q1m (a0 : Int) : Bool := (s_q1n a0 0 200)
theorem f_q1m_top (a0 : Int) (r : List A) : ev f_q1m_X (lpc (cnOf f_q1m_LV) (f_q1m_L r)) f_q1m_c (K0 TT f_q1m_rv) (enter [.v (.int .i64 a0)]) = (some [.v (.bool (s_q1n a0 0 200))]) := by kernel_rfl
noncomputable def l_q1m (r : Bool) : List A := [.v (.bool r)]
theorem s_q1m_ok (a0 : Int) : (some [.v (.bool (s_q1n a0 0 200))]) = some (l_q1m (s_q1m a0)) := by
 unfold s_q1m
 exact rfl
noncomputable def c_q1m : List A → ACall
 | [.v (.int .i64 a0)] => ⟨Bool, some (s_q1m a0), fun r => .one (.v (.bool r))⟩
 | _ => ACall.fail
theorem f_q1m_sound : Sound Tryz.prog 77 c_q1m := by
 refine sound_good f_q1m_ctx f_q1m_LV 1 Tryz.func77 (c := f_q1m_c) (by kernel_rfl) (rv := f_q1m_rv) (by kernel_rfl) (by kernel_rfl) (by kernel_rfl) (by kernel_rfl) fun rs => ?_
 unfold c_q1m
 split
 ·rename_i a0; intro v h; cases h; exact ⟨rfl, l_q1m (s_q1m a0), rfl, (f_q1m_top a0 _).trans (s_q1m_ok a0)⟩
 ·intro v h; cases h
noncomputable def f_q1k_c : Code := match Tryz.f76.body with | some c => c | none => .skip
noncomputable def f_q1k_X : Ctx := ⟨TT, phiOf [], noPsi, noXi⟩
def f_q1k_LV : List (Nat × Keep) := []
def f_q1k_rv : List ResultVar := [.tmp 4]
noncomputable def f_q1k_L (r : List A) : Nat → AS → Option (List A) := L f_q1k_X (cnOf f_q1k_LV) f_q1k_c (K0 TT f_q1k_rv) r
theorem f_q1k_ctx : CtxOK Tryz.prog f_q1k_X := ctx_of tab mix trivial
noncomputable def s_q1k (a0 a1 : Bool) : Int := (cond (!a0) 1 (cond (!a1) 2 0))
theorem f_q1k_top (a0 a1 : Bool) (r : List A) : ev f_q1k_X (lpc (cnOf f_q1k_LV) (f_q1k_L r)) f_q1k_c (K0 TT f_q1k_rv) (enter [.v (.bool a0), .v (.bool a1)]) = (cond (!a0) (some [.v (.int .i64 1)]) (cond (!a1) (some [.v (.int .i64 2)]) (some [.v (.int .i64 0)]))) := by kernel_rfl
noncomputable def l_q1k (r : Int) : List A := [.v (.int .i64 r)]
theorem s_q1k_ok (a0 a1 : Bool) : (cond (!a0) (some [.v (.int .i64 1)]) (cond (!a1) (some [.v (.int .i64 2)]) (some [.v (.int .i64 0)]))) = some (l_q1k (s_q1k a0 a1)) := by
 unfold s_q1k
 exact (cond_app (fun x => some (l_q1k x)) rfl (cond_app (fun x => some (l_q1k x)) rfl rfl))
noncomputable def c_q1k : List A → ACall
 | [.v (.bool a0), .v (.bool a1)] => ⟨Int, some (s_q1k a0 a1), fun r => .one (.v (.int .i64 r))⟩
 | _ => ACall.fail
theorem f_q1k_sound : Sound Tryz.prog 76 c_q1k := by
 refine sound_good f_q1k_ctx f_q1k_LV 2 Tryz.func76 (c := f_q1k_c) (by kernel_rfl) (rv := f_q1k_rv) (by kernel_rfl) (by kernel_rfl) (by kernel_rfl) (by kernel_rfl) fun rs => ?_
 unfold c_q1k
 split
 ·rename_i a0 a1; intro v h; cases h; exact ⟨rfl, l_q1k (s_q1k a0 a1), rfl, (f_q1k_top a0 a1 _).trans (s_q1k_ok a0 a1)⟩
 ·intro v h; cases h
noncomputable def f_q0k_c : Code := match Tryz.f78.body with | some c => c | none => .skip
noncomputable def f_q0k_X : Ctx := ⟨TT, phiOf [], noPsi, noXi⟩
def f_q0k_LV : List (Nat × Keep) := [(3, ([5, 13, 14, 15], [], []))]
def f_q0k_rv : List ResultVar := [.tmp 4]
noncomputable def f_q0k_L (r : List A) : Nat → AS → Option (List A) := L f_q0k_X (cnOf f_q0k_LV) f_q0k_c (K0 TT f_q0k_rv) r
theorem f_q0k_ctx : CtxOK Tryz.prog f_q0k_X := ctx_of tab mix trivial
noncomputable def f_q0k_s3 (x0 x1 x2 : Int) (x3 : List Int) : AS := ⟨[(5, .a (.v (.int .i64 x0))), (13, .a (.sl 0)), (14, .a (.v (.int .i64 x1))), (15, .a (.v (.int .i64 x2)))], [(0, some ⟨false, .arr (.one (.i .i16)) x3⟩)], 1⟩
noncomputable def l_q0k (r : Int) : List A := [.v (.int .i64 r)]
theorem f_q0k_step3 (x0 x1 x2 : Int) (x3 : List Int) (r : List A) (h : (cond (decide (x2 < x1)) (cond (inB x2 (List.length x3)) (f_q0k_L r 3 (f_q0k_s3 (IntKind.wrap .i64 (x0 + (IntKind.wrap .i64 (List.getD x3 (Int.toNat x2) 0)))) x1 (IntKind.wrap .i64 (x2 + 1)) x3)) none) (some [.v (.int .i64 x0)])) = some r) : f_q0k_L r 3 (f_q0k_s3 x0 x1 x2 x3) = some r :=
 step_of' h (by kernel_rfl)
noncomputable def f_q0k_n3 (x0 x1 x2 : Int) (x3 : List Int) : Option ((Int × Int × Int × (List Int)) ⊕ Int) := (cond (decide (x2 < x1)) (cond (inB x2 (List.length x3)) (some (Sum.inl ((IntKind.wrap .i64 (x0 + (IntKind.wrap .i64 (List.getD x3 (Int.toNat x2) 0)))), x1, (IntKind.wrap .i64 (x2 + 1)), x3))) none) (some (Sum.inr x0)))
noncomputable def f_q0k_run3 (x : (Int × Int × Int × (List Int))) : Option Int := iter (fun x => f_q0k_n3 x.1 x.2.1 x.2.2.1 x.2.2.2) FU x
noncomputable def f_q0k_G3 (r : List A) (x : (Int × Int × Int × (List Int))) : Prop := f_q0k_L r 3 (f_q0k_s3 x.1 x.2.1 x.2.2.1 x.2.2.2) = some r
noncomputable def f_q0k_S3 (r : List A) : Int → Prop := fun v => r = l_q0k v
theorem f_q0k_go3 (r : List A) : ∀ x, sem (f_q0k_S3 r) (f_q0k_run3 x) → f_q0k_G3 r x :=
 fun x => iter_sound (step := fun x => f_q0k_n3 x.1 x.2.1 x.2.2.1 x.2.2.2) (fun x h => by
  unfold f_q0k_n3 at h
  exact f_q0k_step3 x.1 x.2.1 x.2.2.1 x.2.2.2 r ((sem_cond h (fun h => (sem_cond h (fun h => sem_got h fun q => q) (fun h => sem_none h))) (fun h => sem_got h fun q => some_eq q)))) FU x
noncomputable def s_q0k (a0 : List Int) (a1 : Int) : Option Int := (f_q0k_run3 ((IntKind.wrap .i64 ((IntKind.wrap .i64 (((List.length a0 : Nat) : Int) - 1)) * a1)), ((List.length a0 : Nat) : Int), 0, a0))
theorem f_q0k_top (a0 : List Int) (a1 : Int) (r : List A) : ev f_q0k_X (lpc (cnOf f_q0k_LV) (f_q0k_L r)) f_q0k_c (K0 TT f_q0k_rv) (enter [.lst (.one (.i .i16)) a0, .v (.int .i64 a1)]) = (f_q0k_L r 3 (f_q0k_s3 (IntKind.wrap .i64 ((IntKind.wrap .i64 (((List.length a0 : Nat) : Int) - 1)) * a1)) ((List.length a0 : Nat) : Int) 0 a0)) := by kernel_rfl
theorem s_q0k_ok (a0 : List Int) (a1 v : Int) (h : s_q0k a0 a1 = some v) : (f_q0k_L (l_q0k v) 3 (f_q0k_s3 (IntKind.wrap .i64 ((IntKind.wrap .i64 (((List.length a0 : Nat) : Int) - 1)) * a1)) ((List.length a0 : Nat) : Int) 0 a0)) = some (l_q0k v) := by
 unfold s_q0k at h
 have go : ∀ r, sem (fun v => r = l_q0k v) ((f_q0k_run3 ((IntKind.wrap .i64 ((IntKind.wrap .i64 (((List.length a0 : Nat) : Int) - 1)) * a1)), ((List.length a0 : Nat) : Int), 0, a0))) → (f_q0k_L r 3 (f_q0k_s3 (IntKind.wrap .i64 ((IntKind.wrap .i64 (((List.length a0 : Nat) : Int) - 1)) * a1)) ((List.length a0 : Nat) : Int) 0 a0)) = some r := fun r h => f_q0k_go3 r _ h
 exact go (l_q0k v) ⟨v, h, rfl⟩
noncomputable def c_q0k : List A → ACall
 | [.lst (.one (.i .i16)) a0, .v (.int .i64 a1)] => ⟨Int, s_q0k a0 a1, fun r => .one (.v (.int .i64 r))⟩
 | _ => ACall.fail
theorem f_q0k_sound : Sound Tryz.prog 78 c_q0k := by
 refine sound_good f_q0k_ctx f_q0k_LV 2 Tryz.func78 (c := f_q0k_c) (by kernel_rfl) (rv := f_q0k_rv) (by kernel_rfl) (by kernel_rfl) (by kernel_rfl) (by kernel_rfl) fun rs => ?_
 unfold c_q0k
 split
 ·rename_i a0 a1; intro v h; exact ⟨rfl, l_q0k v, rfl, (f_q0k_top a0 a1 _).trans (s_q0k_ok a0 a1 v h)⟩
 ·intro v h; cases h
noncomputable def f_q0w_c : Code := match Tryz.f11.body with | some c => c | none => .skip
noncomputable def f_q0w_X : Ctx := ⟨TT, phiOf [(16, c_q0x), (76, c_q1k), (77, c_q1m), (78, c_q0k)], noPsi, noXi⟩
def f_q0w_LV : List (Nat × Keep) := []
def f_q0w_rv : List ResultVar := [.tmp 4, .tmp 5]
noncomputable def f_q0w_L (r : List A) : Nat → AS → Option (List A) := L f_q0w_X (cnOf f_q0w_LV) f_q0w_c (K0 TT f_q0w_rv) r
theorem f_q0w_ctx : CtxOK Tryz.prog f_q0w_X := ctx_of tab mix ⟨⟨Tryz.call16, f_q0x_sound⟩, ⟨Tryz.call76, f_q1k_sound⟩, ⟨Tryz.call77, f_q1m_sound⟩, ⟨Tryz.call78, f_q0k_sound⟩, trivial⟩
noncomputable def s_q0w (a0 : List Int) (a1 : Int) : Option (Int × Int) := (Option.bind (s_q0x a0) fun r1 => (cond ((s_q1k r1 (s_q1m a1)) != 0) (some (0, (s_q1k r1 (s_q1m a1)))) (Option.bind (s_q0k a0 a1) fun r2 => (some (r2, 0)))))
theorem f_q0w_top (a0 : List Int) (a1 : Int) (r : List A) : ev f_q0w_X (lpc (cnOf f_q0w_LV) (f_q0w_L r)) f_q0w_c (K0 TT f_q0w_rv) (enter [.lst (.one (.i .i16)) a0, .v (.int .i64 a1)]) = (Option.bind (s_q0x a0) fun r1 => (cond ((s_q1k r1 (s_q1m a1)) != 0) (some [.v (.int .i64 0), .v (.int .i64 (s_q1k r1 (s_q1m a1)))]) (Option.bind (s_q0k a0 a1) fun r2 => (some [.v (.int .i64 r2), .v (.int .i64 0)])))) := by kernel_rfl
noncomputable def l_q0w (r : (Int × Int)) : List A := [.v (.int .i64 r.1), .v (.int .i64 r.2)]
theorem s_q0w_ok (a0 : List Int) (a1 : Int) (v : (Int × Int)) (h : s_q0w a0 a1 = some v) : (Option.bind (s_q0x a0) fun r1 => (cond ((s_q1k r1 (s_q1m a1)) != 0) (some [.v (.int .i64 0), .v (.int .i64 (s_q1k r1 (s_q1m a1)))]) (Option.bind (s_q0k a0 a1) fun r2 => (some [.v (.int .i64 r2), .v (.int .i64 0)])))) = some (l_q0w v) := by
 have e : (Option.bind (s_q0x a0) fun r1 => (cond ((s_q1k r1 (s_q1m a1)) != 0) (some [.v (.int .i64 0), .v (.int .i64 (s_q1k r1 (s_q1m a1)))]) (Option.bind (s_q0k a0 a1) fun r2 => (some [.v (.int .i64 r2), .v (.int .i64 0)])))) = Option.map l_q0w (s_q0w a0 a1) := by
  unfold s_q0w
  exact (bind_app fun _ => (cond_app (Option.map l_q0w) rfl (bind_app fun _ => rfl)))
 rw [e, h]; rfl
noncomputable def c_q0w : List A → ACall
 | [.lst (.one (.i .i16)) a0, .v (.int .i64 a1)] => ⟨(Int × Int), s_q0w a0 a1, fun r => .tup [.v (.int .i64 r.1), .v (.int .i64 r.2)]⟩
 | _ => ACall.fail
theorem f_q0w_sound : Sound Tryz.prog 11 c_q0w := by
 refine sound_good f_q0w_ctx f_q0w_LV 2 Tryz.func11 (c := f_q0w_c) (by kernel_rfl) (rv := f_q0w_rv) (by kernel_rfl) (by kernel_rfl) (by kernel_rfl) (by kernel_rfl) fun rs => ?_
 unfold c_q0w
 split
 ·rename_i a0 a1; intro v h; exact ⟨rfl, l_q0w v, rfl, (f_q0w_top a0 a1 _).trans (s_q0w_ok a0 a1 v h)⟩
 ·intro v h; cases h
noncomputable def f_q1w_c : Code := match Tryz.f101.body with | some c => c | none => .skip
noncomputable def f_q1w_X : Ctx := ⟨TT, phiOf [], noPsi, noXi⟩
def f_q1w_LV : List (Nat × Keep) := []
def f_q1w_rv : List ResultVar := [.tmp 6]
noncomputable def f_q1w_L (r : List A) : Nat → AS → Option (List A) := L f_q1w_X (cnOf f_q1w_LV) f_q1w_c (K0 TT f_q1w_rv) r
theorem f_q1w_ctx : CtxOK Tryz.prog f_q1w_X := ctx_of tab mix trivial
noncomputable def s_q1w (a0 a1 a2 : Int) : Bool := (cond (decide (a0 ≥ a1)) (decide (a0 ≤ a2)) false)
theorem f_q1w_top (a0 a1 a2 : Int) (r : List A) : ev f_q1w_X (lpc (cnOf f_q1w_LV) (f_q1w_L r)) f_q1w_c (K0 TT f_q1w_rv) (enter [.v (.int .i64 a0), .v (.int .i64 a1), .v (.int .i64 a2)]) = (cond (decide (a0 ≥ a1)) (some [.v (.bool (decide (a0 ≤ a2)))]) (some [.v (.bool false)])) := by kernel_rfl
noncomputable def l_q1w (r : Bool) : List A := [.v (.bool r)]
theorem s_q1w_ok (a0 a1 a2 : Int) : (cond (decide (a0 ≥ a1)) (some [.v (.bool (decide (a0 ≤ a2)))]) (some [.v (.bool false)])) = some (l_q1w (s_q1w a0 a1 a2)) := by
 unfold s_q1w
 exact (cond_app (fun x => some (l_q1w x)) rfl rfl)
noncomputable def c_q1w : List A → ACall
 | [.v (.int .i64 a0), .v (.int .i64 a1), .v (.int .i64 a2)] => ⟨Bool, some (s_q1w a0 a1 a2), fun r => .one (.v (.bool r))⟩
 | _ => ACall.fail
theorem f_q1w_sound : Sound Tryz.prog 101 c_q1w := by
 refine sound_good f_q1w_ctx f_q1w_LV 3 Tryz.func101 (c := f_q1w_c) (by kernel_rfl) (rv := f_q1w_rv) (by kernel_rfl) (by kernel_rfl) (by kernel_rfl) (by kernel_rfl) fun rs => ?_
 unfold c_q1w
 split
 ·rename_i a0 a1 a2; intro v h; cases h; exact ⟨rfl, l_q1w (s_q1w a0 a1 a2), rfl, (f_q1w_top a0 a1 a2 _).trans (s_q1w_ok a0 a1 a2)⟩
 ·intro v h; cases h
noncomputable def f_q14_c : Code := match Tryz.f98.body with | some c => c | none => .skip
noncomputable def f_q14_X : Ctx := ⟨TT, phiOf [(101, c_q1w)], noPsi, noXi⟩
def f_q14_LV : List (Nat × Keep) := []
def f_q14_rv : List ResultVar := [.tmp 2]
noncomputable def f_q14_L (r : List A) : Nat → AS → Option (List A) := L f_q14_X (cnOf f_q14_LV) f_q14_c (K0 TT f_q14_rv) r
theorem f_q14_ctx : CtxOK Tryz.prog f_q14_X := ctx_of tab mix ⟨⟨Tryz.call101, f_q1w_sound⟩, trivial⟩
noncomputable def s_q14 (a0 : Int) : Bool := (s_q1w a0 1 200)
theorem f_q14_top (a0 : Int) (r : List A) : ev f_q14_X (lpc (cnOf f_q14_LV) (f_q14_L r)) f_q14_c (K0 TT f_q14_rv) (enter [.v (.int .i64 a0)]) = (some [.v (.bool (s_q1w a0 1 200))]) := by kernel_rfl
noncomputable def l_q14 (r : Bool) : List A := [.v (.bool r)]
theorem s_q14_ok (a0 : Int) : (some [.v (.bool (s_q1w a0 1 200))]) = some (l_q14 (s_q14 a0)) := by
 unfold s_q14
 exact rfl
noncomputable def c_q14 : List A → ACall
 | [.v (.int .i64 a0)] => ⟨Bool, some (s_q14 a0), fun r => .one (.v (.bool r))⟩
 | _ => ACall.fail
theorem f_q14_sound : Sound Tryz.prog 98 c_q14 := by
 refine sound_good f_q14_ctx f_q14_LV 1 Tryz.func98 (c := f_q14_c) (by kernel_rfl) (rv := f_q14_rv) (by kernel_rfl) (by kernel_rfl) (by kernel_rfl) (by kernel_rfl) fun rs => ?_
 unfold c_q14
 split
 ·rename_i a0; intro v h; cases h; exact ⟨rfl, l_q14 (s_q14 a0), rfl, (f_q14_top a0 _).trans (s_q14_ok a0)⟩
 ·intro v h; cases h
noncomputable def f_q1x_c : Code := match Tryz.f159.body with | some c => c | none => .skip
noncomputable def f_q1x_X : Ctx := ⟨TT, phiOf [(101, c_q1w), (98, c_q14)], noPsi, noXi⟩
def f_q1x_LV : List (Nat × Keep) := [(4, ([0, 3], [], []))]
def f_q1x_rv : List ResultVar := [.tmp 2]
noncomputable def f_q1x_L (r : List A) : Nat → AS → Option (List A) := L f_q1x_X (cnOf f_q1x_LV) f_q1x_c (K0 TT f_q1x_rv) r
theorem f_q1x_ctx : CtxOK Tryz.prog f_q1x_X := ctx_of tab mix ⟨⟨Tryz.call101, f_q1w_sound⟩, ⟨Tryz.call98, f_q14_sound⟩, trivial⟩
noncomputable def f_q1x_s4 (x0 : Int) (x1 : List Int) : AS := ⟨[(0, .a (.sl 0)), (3, .a (.v (.int .i64 x0)))], [(0, some ⟨false, .arr (.one (.i .i16)) x1⟩)], 1⟩
noncomputable def l_q1x (r : Bool) : List A := [.v (.bool r)]
theorem f_q1x_step4 (x0 : Int) (x1 : List Int) (r : List A) (h : (cond (decide (x0 < ((List.length x1 : Nat) : Int))) (cond (inB x0 (List.length x1)) (cond (!(s_q14 (IntKind.wrap .i64 (List.getD x1 (Int.toNat x0) 0)))) (some [.v (.bool false)]) (f_q1x_L r 4 (f_q1x_s4 (IntKind.wrap .i64 (x0 + 1)) x1))) none) (some [.v (.bool true)])) = some r) : f_q1x_L r 4 (f_q1x_s4 x0 x1) = some r :=
 step_of' h (by kernel_rfl)
noncomputable def f_q1x_n4 (x0 : Int) (x1 : List Int) : Option ((Int × (List Int)) ⊕ Bool) := (cond (decide (x0 < ((List.length x1 : Nat) : Int))) (cond (inB x0 (List.length x1)) (cond (!(s_q14 (IntKind.wrap .i64 (List.getD x1 (Int.toNat x0) 0)))) (some (Sum.inr false)) (some (Sum.inl ((IntKind.wrap .i64 (x0 + 1)), x1)))) none) (some (Sum.inr true)))
noncomputable def f_q1x_run4 (x : (Int × (List Int))) : Option Bool := iter (fun x => f_q1x_n4 x.1 x.2) FU x
noncomputable def f_q1x_G4 (r : List A) (x : (Int × (List Int))) : Prop := f_q1x_L r 4 (f_q1x_s4 x.1 x.2) = some r
noncomputable def f_q1x_S4 (r : List A) : Bool → Prop := fun v => r = l_q1x v
theorem f_q1x_go4 (r : List A) : ∀ x, sem (f_q1x_S4 r) (f_q1x_run4 x) → f_q1x_G4 r x :=
 fun x => iter_sound (step := fun x => f_q1x_n4 x.1 x.2) (fun x h => by
  unfold f_q1x_n4 at h
  exact f_q1x_step4 x.1 x.2 r ((sem_cond h (fun h => (sem_cond h (fun h => (sem_cond h (fun h => sem_got h fun q => some_eq q) (fun h => sem_got h fun q => q))) (fun h => sem_none h))) (fun h => sem_got h fun q => some_eq q)))) FU x
noncomputable def s_q1x (a0 : List Int) : Option Bool := (cond (!(s_q1w ((List.length a0 : Nat) : Int) 1 60)) (some false) (f_q1x_run4 (0, a0)))
theorem f_q1x_top (a0 : List Int) (r : List A) : ev f_q1x_X (lpc (cnOf f_q1x_LV) (f_q1x_L r)) f_q1x_c (K0 TT f_q1x_rv) (enter [.lst (.one (.i .i16)) a0]) = (cond (!(s_q1w ((List.length a0 : Nat) : Int) 1 60)) (some [.v (.bool false)]) (f_q1x_L r 4 (f_q1x_s4 0 a0))) := by kernel_rfl
theorem s_q1x_ok (a0 : List Int) (v : Bool) (h : s_q1x a0 = some v) : (cond (!(s_q1w ((List.length a0 : Nat) : Int) 1 60)) (some [.v (.bool false)]) (f_q1x_L (l_q1x v) 4 (f_q1x_s4 0 a0))) = some (l_q1x v) := by
 unfold s_q1x at h
 have go : ∀ r, sem (fun v => r = l_q1x v) ((cond (!(s_q1w ((List.length a0 : Nat) : Int) 1 60)) (some false) (f_q1x_run4 (0, a0)))) → (cond (!(s_q1w ((List.length a0 : Nat) : Int) 1 60)) (some [.v (.bool false)]) (f_q1x_L r 4 (f_q1x_s4 0 a0))) = some r := fun r h => (sem_cond h (fun h => sem_got h fun q => some_eq q) (fun h => f_q1x_go4 r _ h))
 exact go (l_q1x v) ⟨v, h, rfl⟩
noncomputable def c_q1x : List A → ACall
 | [.lst (.one (.i .i16)) a0] => ⟨Bool, s_q1x a0, fun r => .one (.v (.bool r))⟩
 | _ => ACall.fail
theorem f_q1x_sound : Sound Tryz.prog 159 c_q1x := by
 refine sound_good f_q1x_ctx f_q1x_LV 1 Tryz.func159 (c := f_q1x_c) (by kernel_rfl) (rv := f_q1x_rv) (by kernel_rfl) (by kernel_rfl) (by kernel_rfl) (by kernel_rfl) fun rs => ?_
 unfold c_q1x
 split
 ·rename_i a0; intro v h; exact ⟨rfl, l_q1x v, rfl, (f_q1x_top a0 _).trans (s_q1x_ok a0 v h)⟩
 ·intro v h; cases h
noncomputable def f_q1h_c : Code := match Tryz.f160.body with | some c => c | none => .skip
noncomputable def f_q1h_X : Ctx := ⟨TT, phiOf [(101, c_q1w)], noPsi, noXi⟩
def f_q1h_LV : List (Nat × Keep) := []
def f_q1h_rv : List ResultVar := [.tmp 2]
noncomputable def f_q1h_L (r : List A) : Nat → AS → Option (List A) := L f_q1h_X (cnOf f_q1h_LV) f_q1h_c (K0 TT f_q1h_rv) r
theorem f_q1h_ctx : CtxOK Tryz.prog f_q1h_X := ctx_of tab mix ⟨⟨Tryz.call101, f_q1w_sound⟩, trivial⟩
noncomputable def s_q1h (a0 : Int) : Bool := (s_q1w a0 0 200)
theorem f_q1h_top (a0 : Int) (r : List A) : ev f_q1h_X (lpc (cnOf f_q1h_LV) (f_q1h_L r)) f_q1h_c (K0 TT f_q1h_rv) (enter [.v (.int .i64 a0)]) = (some [.v (.bool (s_q1w a0 0 200))]) := by kernel_rfl
noncomputable def l_q1h (r : Bool) : List A := [.v (.bool r)]
theorem s_q1h_ok (a0 : Int) : (some [.v (.bool (s_q1w a0 0 200))]) = some (l_q1h (s_q1h a0)) := by
 unfold s_q1h
 exact rfl
noncomputable def c_q1h : List A → ACall
 | [.v (.int .i64 a0)] => ⟨Bool, some (s_q1h a0), fun r => .one (.v (.bool r))⟩
 | _ => ACall.fail
theorem f_q1h_sound : Sound Tryz.prog 160 c_q1h := by
 refine sound_good f_q1h_ctx f_q1h_LV 1 Tryz.func160 (c := f_q1h_c) (by kernel_rfl) (rv := f_q1h_rv) (by kernel_rfl) (by kernel_rfl) (by kernel_rfl) (by kernel_rfl) fun rs => ?_
 unfold c_q1h
 split
 ·rename_i a0; intro v h; cases h; exact ⟨rfl, l_q1h (s_q1h a0), rfl, (f_q1h_top a0 _).trans (s_q1h_ok a0)⟩
 ·intro v h; cases h
noncomputable def f_q11_c : Code := match Tryz.f79.body with | some c => c | none => .skip
noncomputable def f_q11_X : Ctx := ⟨TT, phiOf [(159, c_q1x), (160, c_q1h)], noPsi, noXi⟩
def f_q11_LV : List (Nat × Keep) := []
def f_q11_rv : List ResultVar := [.tmp 4]
noncomputable def f_q11_L (r : List A) : Nat → AS → Option (List A) := L f_q11_X (cnOf f_q11_LV) f_q11_c (K0 TT f_q11_rv) r
theorem f_q11_ctx : CtxOK Tryz.prog f_q11_X := ctx_of tab mix ⟨⟨Tryz.call159, f_q1x_sound⟩, ⟨Tryz.call160, f_q1h_sound⟩, trivial⟩
noncomputable def s_q11 (a0 : List Int) (a1 : Int) : Option Int := (Option.bind (s_q1x a0) fun r1 => (cond (!r1) (some 1) (cond (!(s_q1h a1)) (some 2) (some 0))))
theorem f_q11_top (a0 : List Int) (a1 : Int) (r : List A) : ev f_q11_X (lpc (cnOf f_q11_LV) (f_q11_L r)) f_q11_c (K0 TT f_q11_rv) (enter [.lst (.one (.i .i16)) a0, .v (.int .i64 a1)]) = (Option.bind (s_q1x a0) fun r1 => (cond (!r1) (some [.v (.int .i64 1)]) (cond (!(s_q1h a1)) (some [.v (.int .i64 2)]) (some [.v (.int .i64 0)])))) := by kernel_rfl
noncomputable def l_q11 (r : Int) : List A := [.v (.int .i64 r)]
theorem s_q11_ok (a0 : List Int) (a1 v : Int) (h : s_q11 a0 a1 = some v) : (Option.bind (s_q1x a0) fun r1 => (cond (!r1) (some [.v (.int .i64 1)]) (cond (!(s_q1h a1)) (some [.v (.int .i64 2)]) (some [.v (.int .i64 0)])))) = some (l_q11 v) := by
 have e : (Option.bind (s_q1x a0) fun r1 => (cond (!r1) (some [.v (.int .i64 1)]) (cond (!(s_q1h a1)) (some [.v (.int .i64 2)]) (some [.v (.int .i64 0)])))) = Option.map l_q11 (s_q11 a0 a1) := by
  unfold s_q11
  exact (bind_app fun _ => (cond_app (Option.map l_q11) rfl (cond_app (Option.map l_q11) rfl rfl)))
 rw [e, h]; rfl
noncomputable def c_q11 : List A → ACall
 | [.lst (.one (.i .i16)) a0, .v (.int .i64 a1)] => ⟨Int, s_q11 a0 a1, fun r => .one (.v (.int .i64 r))⟩
 | _ => ACall.fail
theorem f_q11_sound : Sound Tryz.prog 79 c_q11 := by
 refine sound_good f_q11_ctx f_q11_LV 2 Tryz.func79 (c := f_q11_c) (by kernel_rfl) (rv := f_q11_rv) (by kernel_rfl) (by kernel_rfl) (by kernel_rfl) (by kernel_rfl) fun rs => ?_
 unfold c_q11
 split
 ·rename_i a0 a1; intro v h; exact ⟨rfl, l_q11 v, rfl, (f_q11_top a0 a1 _).trans (s_q11_ok a0 a1 v h)⟩
 ·intro v h; cases h
noncomputable def f_q0u_c : Code := match Tryz.f80.body with | some c => c | none => .skip
noncomputable def f_q0u_X : Ctx := ⟨TT, phiOf [], noPsi, noXi⟩
def f_q0u_LV : List (Nat × Keep) := [(3, ([0, 5, 6], [], []))]
def f_q0u_rv : List ResultVar := [.tmp 4]
noncomputable def f_q0u_L (r : List A) : Nat → AS → Option (List A) := L f_q0u_X (cnOf f_q0u_LV) f_q0u_c (K0 TT f_q0u_rv) r
theorem f_q0u_ctx : CtxOK Tryz.prog f_q0u_X := ctx_of tab mix trivial
noncomputable def f_q0u_s3 (x0 x1 : Int) (x2 : List Int) : AS := ⟨[(0, .a (.sl 0)), (5, .a (.v (.int .i64 x0))), (6, .a (.v (.int .i64 x1)))], [(0, some ⟨false, .arr (.one (.i .i16)) x2⟩)], 1⟩
noncomputable def l_q0u (r : Int) : List A := [.v (.int .i64 r)]
theorem f_q0u_step3 (x0 x1 : Int) (x2 : List Int) (r : List A) (h : (cond (decide (x1 < ((List.length x2 : Nat) : Int))) (cond (inB x1 (List.length x2)) (f_q0u_L r 3 (f_q0u_s3 (IntKind.wrap .i64 (x0 + (IntKind.wrap .i64 (List.getD x2 (Int.toNat x1) 0)))) (IntKind.wrap .i64 (x1 + 1)) x2)) none) (some [.v (.int .i64 x0)])) = some r) : f_q0u_L r 3 (f_q0u_s3 x0 x1 x2) = some r :=
 step_of' h (by kernel_rfl)
noncomputable def f_q0u_n3 (x0 x1 : Int) (x2 : List Int) : Option ((Int × Int × (List Int)) ⊕ Int) := (cond (decide (x1 < ((List.length x2 : Nat) : Int))) (cond (inB x1 (List.length x2)) (some (Sum.inl ((IntKind.wrap .i64 (x0 + (IntKind.wrap .i64 (List.getD x2 (Int.toNat x1) 0)))), (IntKind.wrap .i64 (x1 + 1)), x2))) none) (some (Sum.inr x0)))
noncomputable def f_q0u_run3 (x : (Int × Int × (List Int))) : Option Int := iter (fun x => f_q0u_n3 x.1 x.2.1 x.2.2) FU x
noncomputable def f_q0u_G3 (r : List A) (x : (Int × Int × (List Int))) : Prop := f_q0u_L r 3 (f_q0u_s3 x.1 x.2.1 x.2.2) = some r
noncomputable def f_q0u_S3 (r : List A) : Int → Prop := fun v => r = l_q0u v
theorem f_q0u_go3 (r : List A) : ∀ x, sem (f_q0u_S3 r) (f_q0u_run3 x) → f_q0u_G3 r x :=
 fun x => iter_sound (step := fun x => f_q0u_n3 x.1 x.2.1 x.2.2) (fun x h => by
  unfold f_q0u_n3 at h
  exact f_q0u_step3 x.1 x.2.1 x.2.2 r ((sem_cond h (fun h => (sem_cond h (fun h => sem_got h fun q => q) (fun h => sem_none h))) (fun h => sem_got h fun q => some_eq q)))) FU x
noncomputable def s_q0u (a0 : List Int) (a1 : Int) : Option Int := (f_q0u_run3 ((IntKind.wrap .i64 (a1 * (IntKind.wrap .i64 (((List.length a0 : Nat) : Int) - 1)))), 0, a0))
theorem f_q0u_top (a0 : List Int) (a1 : Int) (r : List A) : ev f_q0u_X (lpc (cnOf f_q0u_LV) (f_q0u_L r)) f_q0u_c (K0 TT f_q0u_rv) (enter [.lst (.one (.i .i16)) a0, .v (.int .i64 a1)]) = (f_q0u_L r 3 (f_q0u_s3 (IntKind.wrap .i64 (a1 * (IntKind.wrap .i64 (((List.length a0 : Nat) : Int) - 1)))) 0 a0)) := by kernel_rfl
theorem s_q0u_ok (a0 : List Int) (a1 v : Int) (h : s_q0u a0 a1 = some v) : (f_q0u_L (l_q0u v) 3 (f_q0u_s3 (IntKind.wrap .i64 (a1 * (IntKind.wrap .i64 (((List.length a0 : Nat) : Int) - 1)))) 0 a0)) = some (l_q0u v) := by
 unfold s_q0u at h
 have go : ∀ r, sem (fun v => r = l_q0u v) ((f_q0u_run3 ((IntKind.wrap .i64 (a1 * (IntKind.wrap .i64 (((List.length a0 : Nat) : Int) - 1)))), 0, a0))) → (f_q0u_L r 3 (f_q0u_s3 (IntKind.wrap .i64 (a1 * (IntKind.wrap .i64 (((List.length a0 : Nat) : Int) - 1)))) 0 a0)) = some r := fun r h => f_q0u_go3 r _ h
 exact go (l_q0u v) ⟨v, h, rfl⟩
noncomputable def c_q0u : List A → ACall
 | [.lst (.one (.i .i16)) a0, .v (.int .i64 a1)] => ⟨Int, s_q0u a0 a1, fun r => .one (.v (.int .i64 r))⟩
 | _ => ACall.fail
theorem f_q0u_sound : Sound Tryz.prog 80 c_q0u := by
 refine sound_good f_q0u_ctx f_q0u_LV 2 Tryz.func80 (c := f_q0u_c) (by kernel_rfl) (rv := f_q0u_rv) (by kernel_rfl) (by kernel_rfl) (by kernel_rfl) (by kernel_rfl) fun rs => ?_
 unfold c_q0u
 split
 ·rename_i a0 a1; intro v h; exact ⟨rfl, l_q0u v, rfl, (f_q0u_top a0 a1 _).trans (s_q0u_ok a0 a1 v h)⟩
 ·intro v h; cases h
noncomputable def f_q0z_c : Code := match Tryz.f12.body with | some c => c | none => .skip
noncomputable def f_q0z_X : Ctx := ⟨TT, phiOf [(79, c_q11), (80, c_q0u)], noPsi, noXi⟩
def f_q0z_LV : List (Nat × Keep) := []
def f_q0z_rv : List ResultVar := [.tmp 4, .tmp 5]
noncomputable def f_q0z_L (r : List A) : Nat → AS → Option (List A) := L f_q0z_X (cnOf f_q0z_LV) f_q0z_c (K0 TT f_q0z_rv) r
theorem f_q0z_ctx : CtxOK Tryz.prog f_q0z_X := ctx_of tab mix ⟨⟨Tryz.call79, f_q11_sound⟩, ⟨Tryz.call80, f_q0u_sound⟩, trivial⟩
noncomputable def s_q0z (a0 : List Int) (a1 : Int) : Option (Int × Int) := (Option.bind (s_q11 a0 a1) fun r1 => (cond (r1 != 0) (some (0, r1)) (Option.bind (s_q0u a0 a1) fun r2 => (some (r2, 0)))))
theorem f_q0z_top (a0 : List Int) (a1 : Int) (r : List A) : ev f_q0z_X (lpc (cnOf f_q0z_LV) (f_q0z_L r)) f_q0z_c (K0 TT f_q0z_rv) (enter [.lst (.one (.i .i16)) a0, .v (.int .i64 a1)]) = (Option.bind (s_q11 a0 a1) fun r1 => (cond (r1 != 0) (some [.v (.int .i64 0), .v (.int .i64 r1)]) (Option.bind (s_q0u a0 a1) fun r2 => (some [.v (.int .i64 r2), .v (.int .i64 0)])))) := by kernel_rfl
noncomputable def l_q0z (r : (Int × Int)) : List A := [.v (.int .i64 r.1), .v (.int .i64 r.2)]
theorem s_q0z_ok (a0 : List Int) (a1 : Int) (v : (Int × Int)) (h : s_q0z a0 a1 = some v) : (Option.bind (s_q11 a0 a1) fun r1 => (cond (r1 != 0) (some [.v (.int .i64 0), .v (.int .i64 r1)]) (Option.bind (s_q0u a0 a1) fun r2 => (some [.v (.int .i64 r2), .v (.int .i64 0)])))) = some (l_q0z v) := by
 have e : (Option.bind (s_q11 a0 a1) fun r1 => (cond (r1 != 0) (some [.v (.int .i64 0), .v (.int .i64 r1)]) (Option.bind (s_q0u a0 a1) fun r2 => (some [.v (.int .i64 r2), .v (.int .i64 0)])))) = Option.map l_q0z (s_q0z a0 a1) := by
  unfold s_q0z
  exact (bind_app fun _ => (cond_app (Option.map l_q0z) rfl (bind_app fun _ => rfl)))
 rw [e, h]; rfl
noncomputable def c_q0z : List A → ACall
 | [.lst (.one (.i .i16)) a0, .v (.int .i64 a1)] => ⟨(Int × Int), s_q0z a0 a1, fun r => .tup [.v (.int .i64 r.1), .v (.int .i64 r.2)]⟩
 | _ => ACall.fail
theorem f_q0z_sound : Sound Tryz.prog 12 c_q0z := by
 refine sound_good f_q0z_ctx f_q0z_LV 2 Tryz.func12 (c := f_q0z_c) (by kernel_rfl) (rv := f_q0z_rv) (by kernel_rfl) (by kernel_rfl) (by kernel_rfl) (by kernel_rfl) fun rs => ?_
 unfold c_q0z
 split
 ·rename_i a0 a1; intro v h; exact ⟨rfl, l_q0z v, rfl, (f_q0z_top a0 a1 _).trans (s_q0z_ok a0 a1 v h)⟩
 ·intro v h; cases h
noncomputable def f_q0j_c : Code := match Tryz.f81.body with | some c => c | none => .skip
noncomputable def f_q0j_X : Ctx := ⟨TT, phiOf [], noPsi, noXi⟩
def f_q0j_LV : List (Nat × Keep) := [(3, ([1, 5, 6, 14, 15, 16], [], []))]
def f_q0j_rv : List ResultVar := [.tmp 4]
noncomputable def f_q0j_L (r : List A) : Nat → AS → Option (List A) := L f_q0j_X (cnOf f_q0j_LV) f_q0j_c (K0 TT f_q0j_rv) r
theorem f_q0j_ctx : CtxOK Tryz.prog f_q0j_X := ctx_of tab mix trivial
noncomputable def f_q0j_s3 (x0 x1 x2 x3 : Int) (x4 : List (Int × Int)) (x5 : List Int) : AS := ⟨[(1, .a (.v (.int .i64 x0))), (5, .a (.sl 0)), (6, .a (.v (.int .i64 x1))), (14, .a (.sl 1)), (15, .a (.v (.int .i64 x2))), (16, .a (.v (.int .i64 x3)))], [(0, some ⟨true, .arr (.st [(.i .i16), (.i .i16)]) x4⟩), (1, some ⟨false, .arr (.one (.i .i16)) x5⟩)], 2⟩
noncomputable def l_q0j (r : List (Int × Int)) : List A := [.lst (.st [(.i .i16), (.i .i16)]) r]
theorem f_q0j_step3 (x0 x1 x2 x3 : Int) (x4 : List (Int × Int)) (x5 : List Int) (r : List A) (h : (cond (decide (x3 < x2)) (cond (inB x3 (List.length x5)) (cond (fits ((List.length (x4 : List (Int × Int)) + List.length ([((IntKind.wrap .i16 (IntKind.wrap .i64 (x1 + (IntKind.wrap .i64 (List.getD x5 (Int.toNat x3) 0))))), (IntKind.wrap .i16 (IntKind.wrap .i64 ((IntKind.wrap .i64 (x1 + (IntKind.wrap .i64 (List.getD x5 (Int.toNat x3) 0)))) + x0))))] : List (Int × Int))) * 4)) (f_q0j_L r 3 (f_q0j_s3 x0 (IntKind.wrap .i64 ((IntKind.wrap .i64 (x1 + (IntKind.wrap .i64 (List.getD x5 (Int.toNat x3) 0)))) + x0)) x2 (IntKind.wrap .i64 (x3 + 1)) (x4 ++ [((IntKind.wrap .i16 (IntKind.wrap .i64 (x1 + (IntKind.wrap .i64 (List.getD x5 (Int.toNat x3) 0))))), (IntKind.wrap .i16 (IntKind.wrap .i64 ((IntKind.wrap .i64 (x1 + (IntKind.wrap .i64 (List.getD x5 (Int.toNat x3) 0)))) + x0))))]) x5)) none) none) (some [.lst (.st [(.i .i16), (.i .i16)]) x4])) = some r) : f_q0j_L r 3 (f_q0j_s3 x0 x1 x2 x3 x4 x5) = some r :=
 step_of' h (by kernel_rfl)
noncomputable def f_q0j_n3 (x0 x1 x2 x3 : Int) (x4 : List (Int × Int)) (x5 : List Int) : Option ((Int × Int × Int × Int × (List (Int × Int)) × (List Int)) ⊕ (List (Int × Int))) := (cond (decide (x3 < x2)) (cond (inB x3 (List.length x5)) (cond (fits ((List.length (x4 : List (Int × Int)) + List.length ([((IntKind.wrap .i16 (IntKind.wrap .i64 (x1 + (IntKind.wrap .i64 (List.getD x5 (Int.toNat x3) 0))))), (IntKind.wrap .i16 (IntKind.wrap .i64 ((IntKind.wrap .i64 (x1 + (IntKind.wrap .i64 (List.getD x5 (Int.toNat x3) 0)))) + x0))))] : List (Int × Int))) * 4)) (some (Sum.inl (x0, (IntKind.wrap .i64 ((IntKind.wrap .i64 (x1 + (IntKind.wrap .i64 (List.getD x5 (Int.toNat x3) 0)))) + x0)), x2, (IntKind.wrap .i64 (x3 + 1)), (x4 ++ [((IntKind.wrap .i16 (IntKind.wrap .i64 (x1 + (IntKind.wrap .i64 (List.getD x5 (Int.toNat x3) 0))))), (IntKind.wrap .i16 (IntKind.wrap .i64 ((IntKind.wrap .i64 (x1 + (IntKind.wrap .i64 (List.getD x5 (Int.toNat x3) 0)))) + x0))))]), x5))) none) none) (some (Sum.inr x4)))
noncomputable def f_q0j_run3 (x : (Int × Int × Int × Int × (List (Int × Int)) × (List Int))) : Option (List (Int × Int)) := iter (fun x => f_q0j_n3 x.1 x.2.1 x.2.2.1 x.2.2.2.1 x.2.2.2.2.1 x.2.2.2.2.2) FU x
noncomputable def f_q0j_G3 (r : List A) (x : (Int × Int × Int × Int × (List (Int × Int)) × (List Int))) : Prop := f_q0j_L r 3 (f_q0j_s3 x.1 x.2.1 x.2.2.1 x.2.2.2.1 x.2.2.2.2.1 x.2.2.2.2.2) = some r
noncomputable def f_q0j_S3 (r : List A) : (List (Int × Int)) → Prop := fun v => r = l_q0j v
theorem f_q0j_go3 (r : List A) : ∀ x, sem (f_q0j_S3 r) (f_q0j_run3 x) → f_q0j_G3 r x :=
 fun x => iter_sound (step := fun x => f_q0j_n3 x.1 x.2.1 x.2.2.1 x.2.2.2.1 x.2.2.2.2.1 x.2.2.2.2.2) (fun x h => by
  unfold f_q0j_n3 at h
  exact f_q0j_step3 x.1 x.2.1 x.2.2.1 x.2.2.2.1 x.2.2.2.2.1 x.2.2.2.2.2 r ((sem_cond h (fun h => (sem_cond h (fun h => (sem_cond h (fun h => sem_got h fun q => q) (fun h => sem_none h))) (fun h => sem_none h))) (fun h => sem_got h fun q => some_eq q)))) FU x
noncomputable def s_q0j (a0 : List Int) (a1 : Int) : Option (List (Int × Int)) := (cond (inS 0 (IntKind.wrap .i64 (((List.length a0 : Nat) : Int) - 1)) (List.length a0)) (f_q0j_run3 (a1, 0, ((List.length (List.drop 0 (List.take (Int.toNat (IntKind.wrap .i64 (((List.length a0 : Nat) : Int) - 1))) a0)) : Nat) : Int), 0, [], (List.drop 0 (List.take (Int.toNat (IntKind.wrap .i64 (((List.length a0 : Nat) : Int) - 1))) a0)))) none)
theorem f_q0j_top (a0 : List Int) (a1 : Int) (r : List A) : ev f_q0j_X (lpc (cnOf f_q0j_LV) (f_q0j_L r)) f_q0j_c (K0 TT f_q0j_rv) (enter [.lst (.one (.i .i16)) a0, .v (.int .i64 a1)]) = (cond (inS 0 (IntKind.wrap .i64 (((List.length a0 : Nat) : Int) - 1)) (List.length a0)) (f_q0j_L r 3 (f_q0j_s3 a1 0 ((List.length (List.drop 0 (List.take (Int.toNat (IntKind.wrap .i64 (((List.length a0 : Nat) : Int) - 1))) a0)) : Nat) : Int) 0 [] (List.drop 0 (List.take (Int.toNat (IntKind.wrap .i64 (((List.length a0 : Nat) : Int) - 1))) a0)))) none) := by kernel_rfl
theorem s_q0j_ok (a0 : List Int) (a1 : Int) (v : List (Int × Int)) (h : s_q0j a0 a1 = some v) : (cond (inS 0 (IntKind.wrap .i64 (((List.length a0 : Nat) : Int) - 1)) (List.length a0)) (f_q0j_L (l_q0j v) 3 (f_q0j_s3 a1 0 ((List.length (List.drop 0 (List.take (Int.toNat (IntKind.wrap .i64 (((List.length a0 : Nat) : Int) - 1))) a0)) : Nat) : Int) 0 [] (List.drop 0 (List.take (Int.toNat (IntKind.wrap .i64 (((List.length a0 : Nat) : Int) - 1))) a0)))) none) = some (l_q0j v) := by
 unfold s_q0j at h
 have go : ∀ r, sem (fun v => r = l_q0j v) ((cond (inS 0 (IntKind.wrap .i64 (((List.length a0 : Nat) : Int) - 1)) (List.length a0)) (f_q0j_run3 (a1, 0, ((List.length (List.drop 0 (List.take (Int.toNat (IntKind.wrap .i64 (((List.length a0 : Nat) : Int) - 1))) a0)) : Nat) : Int), 0, [], (List.drop 0 (List.take (Int.toNat (IntKind.wrap .i64 (((List.length a0 : Nat) : Int) - 1))) a0)))) none)) → (cond (inS 0 (IntKind.wrap .i64 (((List.length a0 : Nat) : Int) - 1)) (List.length a0)) (f_q0j_L r 3 (f_q0j_s3 a1 0 ((List.length (List.drop 0 (List.take (Int.toNat (IntKind.wrap .i64 (((List.length a0 : Nat) : Int) - 1))) a0)) : Nat) : Int) 0 [] (List.drop 0 (List.take (Int.toNat (IntKind.wrap .i64 (((List.length a0 : Nat) : Int) - 1))) a0)))) none) = some r := fun r h => (sem_cond h (fun h => f_q0j_go3 r _ h) (fun h => sem_none h))
 exact go (l_q0j v) ⟨v, h, rfl⟩
noncomputable def c_q0j : List A → ACall
 | [.lst (.one (.i .i16)) a0, .v (.int .i64 a1)] => ⟨(List (Int × Int)), s_q0j a0 a1, fun r => .one (.lst (.st [(.i .i16), (.i .i16)]) r)⟩
 | _ => ACall.fail
theorem f_q0j_sound : Sound Tryz.prog 81 c_q0j := by
 refine sound_good f_q0j_ctx f_q0j_LV 2 Tryz.func81 (c := f_q0j_c) (by kernel_rfl) (rv := f_q0j_rv) (by kernel_rfl) (by kernel_rfl) (by kernel_rfl) (by kernel_rfl) fun rs => ?_
 unfold c_q0j
 split
 ·rename_i a0 a1; intro v h; exact ⟨rfl, l_q0j v, rfl, (f_q0j_top a0 a1 _).trans (s_q0j_ok a0 a1 v h)⟩
 ·intro v h; cases h
noncomputable def f_q0v_c : Code := match Tryz.f13.body with | some c => c | none => .skip
noncomputable def f_q0v_X : Ctx := ⟨TT, phiOf [(16, c_q0x), (76, c_q1k), (77, c_q1m), (81, c_q0j)], noPsi, noXi⟩
def f_q0v_LV : List (Nat × Keep) := []
def f_q0v_rv : List ResultVar := [.tmp 4, .tmp 5]
noncomputable def f_q0v_L (r : List A) : Nat → AS → Option (List A) := L f_q0v_X (cnOf f_q0v_LV) f_q0v_c (K0 TT f_q0v_rv) r
theorem f_q0v_ctx : CtxOK Tryz.prog f_q0v_X := ctx_of tab mix ⟨⟨Tryz.call16, f_q0x_sound⟩, ⟨Tryz.call76, f_q1k_sound⟩, ⟨Tryz.call77, f_q1m_sound⟩, ⟨Tryz.call81, f_q0j_sound⟩, trivial⟩
noncomputable def s_q0v (a0 : List Int) (a1 : Int) : Option ((List (Int × Int)) × Int) := (Option.bind (s_q0x a0) fun r1 => (cond ((s_q1k r1 (s_q1m a1)) != 0) (some ([], (s_q1k r1 (s_q1m a1)))) (Option.bind (s_q0j a0 a1) fun r2 => (some (r2, 0)))))
theorem f_q0v_top (a0 : List Int) (a1 : Int) (r : List A) : ev f_q0v_X (lpc (cnOf f_q0v_LV) (f_q0v_L r)) f_q0v_c (K0 TT f_q0v_rv) (enter [.lst (.one (.i .i16)) a0, .v (.int .i64 a1)]) = (Option.bind (s_q0x a0) fun r1 => (cond ((s_q1k r1 (s_q1m a1)) != 0) (some [.lst (.st [(.i .i16), (.i .i16)]) [], .v (.int .i64 (s_q1k r1 (s_q1m a1)))]) (Option.bind (s_q0j a0 a1) fun r2 => (some [.lst (.st [(.i .i16), (.i .i16)]) r2, .v (.int .i64 0)])))) := by kernel_rfl
noncomputable def l_q0v (r : ((List (Int × Int)) × Int)) : List A := [.lst (.st [(.i .i16), (.i .i16)]) r.1, .v (.int .i64 r.2)]
theorem s_q0v_ok (a0 : List Int) (a1 : Int) (v : ((List (Int × Int)) × Int)) (h : s_q0v a0 a1 = some v) : (Option.bind (s_q0x a0) fun r1 => (cond ((s_q1k r1 (s_q1m a1)) != 0) (some [.lst (.st [(.i .i16), (.i .i16)]) [], .v (.int .i64 (s_q1k r1 (s_q1m a1)))]) (Option.bind (s_q0j a0 a1) fun r2 => (some [.lst (.st [(.i .i16), (.i .i16)]) r2, .v (.int .i64 0)])))) = some (l_q0v v) := by
 have e : (Option.bind (s_q0x a0) fun r1 => (cond ((s_q1k r1 (s_q1m a1)) != 0) (some [.lst (.st [(.i .i16), (.i .i16)]) [], .v (.int .i64 (s_q1k r1 (s_q1m a1)))]) (Option.bind (s_q0j a0 a1) fun r2 => (some [.lst (.st [(.i .i16), (.i .i16)]) r2, .v (.int .i64 0)])))) = Option.map l_q0v (s_q0v a0 a1) := by
  unfold s_q0v
  exact (bind_app fun _ => (cond_app (Option.map l_q0v) rfl (bind_app fun _ => rfl)))
 rw [e, h]; rfl
noncomputable def c_q0v : List A → ACall
 | [.lst (.one (.i .i16)) a0, .v (.int .i64 a1)] => ⟨((List (Int × Int)) × Int), s_q0v a0 a1, fun r => .tup [.lst (.st [(.i .i16), (.i .i16)]) r.1, .v (.int .i64 r.2)]⟩
 | _ => ACall.fail
theorem f_q0v_sound : Sound Tryz.prog 13 c_q0v := by
 refine sound_good f_q0v_ctx f_q0v_LV 2 Tryz.func13 (c := f_q0v_c) (by kernel_rfl) (rv := f_q0v_rv) (by kernel_rfl) (by kernel_rfl) (by kernel_rfl) (by kernel_rfl) fun rs => ?_
 unfold c_q0v
 split
 ·rename_i a0 a1; intro v h; exact ⟨rfl, l_q0v v, rfl, (f_q0v_top a0 a1 _).trans (s_q0v_ok a0 a1 v h)⟩
 ·intro v h; cases h
noncomputable def f_q0q_c : Code := match Tryz.f17.body with | some c => c | none => .skip
noncomputable def f_q0q_X : Ctx := ⟨TT, phiOf [(16, c_q0x), (76, c_q1k), (77, c_q1m)], noPsi, noXi⟩
def f_q0q_LV : List (Nat × Keep) := [(6, ([1, 2, 9, 20, 21, 22], [], []))]
def f_q0q_rv : List ResultVar := [.tmp 6, .tmp 7]
noncomputable def f_q0q_L (r : List A) : Nat → AS → Option (List A) := L f_q0q_X (cnOf f_q0q_LV) f_q0q_c (K0 TT f_q0q_rv) r
theorem f_q0q_ctx : CtxOK Tryz.prog f_q0q_X := ctx_of tab mix ⟨⟨Tryz.call16, f_q0x_sound⟩, ⟨Tryz.call76, f_q1k_sound⟩, ⟨Tryz.call77, f_q1m_sound⟩, trivial⟩
noncomputable def f_q0q_s6 (x0 x1 x2 x3 x4 : Int) (x5 : List Int) : AS := ⟨[(1, .a (.v (.int .i64 x0))), (2, .a (.v (.int .i64 x1))), (9, .a (.v (.int .i64 x2))), (20, .a (.sl 0)), (21, .a (.v (.int .i64 x3))), (22, .a (.v (.int .i64 x4)))], [(0, some ⟨false, .arr (.one (.i .i16)) x5⟩)], 1⟩
noncomputable def l_q0q (r : (Int × Int)) : List A := [.v (.int .i64 r.1), .v (.int .i64 r.2)]
theorem f_q0q_step6 (x0 x1 x2 x3 x4 : Int) (x5 : List Int) (r : List A) (h : (cond (decide (x4 < x3)) (cond (inB x4 (List.length x5)) (cond (decide (x1 ≥ x2)) (cond (decide (x1 < (IntKind.wrap .i64 (x2 + (IntKind.wrap .i64 (List.getD x5 (Int.toNat x4) 0)))))) (some [.v (.int .i64 x4), .v (.int .i64 0)]) (f_q0q_L r 6 (f_q0q_s6 x0 x1 (IntKind.wrap .i64 (x2 + (IntKind.wrap .i64 ((IntKind.wrap .i64 (List.getD x5 (Int.toNat x4) 0)) + x0)))) x3 (IntKind.wrap .i64 (x4 + 1)) x5))) (f_q0q_L r 6 (f_q0q_s6 x0 x1 (IntKind.wrap .i64 (x2 + (IntKind.wrap .i64 ((IntKind.wrap .i64 (List.getD x5 (Int.toNat x4) 0)) + x0)))) x3 (IntKind.wrap .i64 (x4 + 1)) x5))) none) (some [.v (.int .i64 0), .v (.int .i64 6)])) = some r) : f_q0q_L r 6 (f_q0q_s6 x0 x1 x2 x3 x4 x5) = some r :=
 step_of' h (by kernel_rfl)
noncomputable def f_q0q_n6 (x0 x1 x2 x3 x4 : Int) (x5 : List Int) : Option ((Int × Int × Int × Int × Int × (List Int)) ⊕ (Int × Int)) := (cond (decide (x4 < x3)) (cond (inB x4 (List.length x5)) (cond (decide (x1 ≥ x2)) (cond (decide (x1 < (IntKind.wrap .i64 (x2 + (IntKind.wrap .i64 (List.getD x5 (Int.toNat x4) 0)))))) (some (Sum.inr (x4, 0))) (some (Sum.inl (x0, x1, (IntKind.wrap .i64 (x2 + (IntKind.wrap .i64 ((IntKind.wrap .i64 (List.getD x5 (Int.toNat x4) 0)) + x0)))), x3, (IntKind.wrap .i64 (x4 + 1)), x5)))) (some (Sum.inl (x0, x1, (IntKind.wrap .i64 (x2 + (IntKind.wrap .i64 ((IntKind.wrap .i64 (List.getD x5 (Int.toNat x4) 0)) + x0)))), x3, (IntKind.wrap .i64 (x4 + 1)), x5)))) none) (some (Sum.inr (0, 6))))
noncomputable def f_q0q_run6 (x : (Int × Int × Int × Int × Int × (List Int))) : Option (Int × Int) := iter (fun x => f_q0q_n6 x.1 x.2.1 x.2.2.1 x.2.2.2.1 x.2.2.2.2.1 x.2.2.2.2.2) FU x
noncomputable def f_q0q_G6 (r : List A) (x : (Int × Int × Int × Int × Int × (List Int))) : Prop := f_q0q_L r 6 (f_q0q_s6 x.1 x.2.1 x.2.2.1 x.2.2.2.1 x.2.2.2.2.1 x.2.2.2.2.2) = some r
noncomputable def f_q0q_S6 (r : List A) : (Int × Int) → Prop := fun v => r = l_q0q v
theorem f_q0q_go6 (r : List A) : ∀ x, sem (f_q0q_S6 r) (f_q0q_run6 x) → f_q0q_G6 r x :=
 fun x => iter_sound (step := fun x => f_q0q_n6 x.1 x.2.1 x.2.2.1 x.2.2.2.1 x.2.2.2.2.1 x.2.2.2.2.2) (fun x h => by
  unfold f_q0q_n6 at h
  exact f_q0q_step6 x.1 x.2.1 x.2.2.1 x.2.2.2.1 x.2.2.2.2.1 x.2.2.2.2.2 r ((sem_cond h (fun h => (sem_cond h (fun h => (sem_cond h (fun h => (sem_cond h (fun h => sem_got h fun q => some_eq q) (fun h => sem_got h fun q => q))) (fun h => sem_got h fun q => q))) (fun h => sem_none h))) (fun h => sem_got h fun q => some_eq q)))) FU x
noncomputable def s_q0q (a0 : List Int) (a1 a2 : Int) : Option (Int × Int) := (Option.bind (s_q0x a0) fun r1 => (cond ((s_q1k r1 (s_q1m a1)) != 0) (some (0, (s_q1k r1 (s_q1m a1)))) (f_q0q_run6 (a1, a2, 0, ((List.length a0 : Nat) : Int), 0, a0))))
theorem f_q0q_top (a0 : List Int) (a1 a2 : Int) (r : List A) : ev f_q0q_X (lpc (cnOf f_q0q_LV) (f_q0q_L r)) f_q0q_c (K0 TT f_q0q_rv) (enter [.lst (.one (.i .i16)) a0, .v (.int .i64 a1), .v (.int .i64 a2)]) = (Option.bind (s_q0x a0) fun r1 => (cond ((s_q1k r1 (s_q1m a1)) != 0) (some [.v (.int .i64 0), .v (.int .i64 (s_q1k r1 (s_q1m a1)))]) (f_q0q_L r 6 (f_q0q_s6 a1 a2 0 ((List.length a0 : Nat) : Int) 0 a0)))) := by kernel_rfl
theorem s_q0q_ok (a0 : List Int) (a1 a2 : Int) (v : (Int × Int)) (h : s_q0q a0 a1 a2 = some v) : (Option.bind (s_q0x a0) fun r1 => (cond ((s_q1k r1 (s_q1m a1)) != 0) (some [.v (.int .i64 0), .v (.int .i64 (s_q1k r1 (s_q1m a1)))]) (f_q0q_L (l_q0q v) 6 (f_q0q_s6 a1 a2 0 ((List.length a0 : Nat) : Int) 0 a0)))) = some (l_q0q v) := by
 unfold s_q0q at h
 have go : ∀ r, sem (fun v => r = l_q0q v) ((Option.bind (s_q0x a0) fun r1 => (cond ((s_q1k r1 (s_q1m a1)) != 0) (some (0, (s_q1k r1 (s_q1m a1)))) (f_q0q_run6 (a1, a2, 0, ((List.length a0 : Nat) : Int), 0, a0))))) → (Option.bind (s_q0x a0) fun r1 => (cond ((s_q1k r1 (s_q1m a1)) != 0) (some [.v (.int .i64 0), .v (.int .i64 (s_q1k r1 (s_q1m a1)))]) (f_q0q_L r 6 (f_q0q_s6 a1 a2 0 ((List.length a0 : Nat) : Int) 0 a0)))) = some r := fun r h => (sem_bind h fun r1 h => (sem_cond h (fun h => sem_got h fun q => some_eq q) (fun h => f_q0q_go6 r _ h)))
 exact go (l_q0q v) ⟨v, h, rfl⟩
noncomputable def c_q0q : List A → ACall
 | [.lst (.one (.i .i16)) a0, .v (.int .i64 a1), .v (.int .i64 a2)] => ⟨(Int × Int), s_q0q a0 a1 a2, fun r => .tup [.v (.int .i64 r.1), .v (.int .i64 r.2)]⟩
 | _ => ACall.fail
theorem f_q0q_sound : Sound Tryz.prog 17 c_q0q := by
 refine sound_good f_q0q_ctx f_q0q_LV 3 Tryz.func17 (c := f_q0q_c) (by kernel_rfl) (rv := f_q0q_rv) (by kernel_rfl) (by kernel_rfl) (by kernel_rfl) (by kernel_rfl) fun rs => ?_
 unfold c_q0q
 split
 ·rename_i a0 a1 a2; intro v h; exact ⟨rfl, l_q0q v, rfl, (f_q0q_top a0 a1 a2 _).trans (s_q0q_ok a0 a1 a2 v h)⟩
 ·intro v h; cases h
noncomputable def f_q0e_c : Code := match Tryz.f82.body with | some c => c | none => .skip
noncomputable def f_q0e_X : Ctx := ⟨TT, phiOf [], noPsi, noXi⟩
def f_q0e_LV : List (Nat × Keep) := [(4, ([0, 1, 12, 13], [], []))]
def f_q0e_rv : List ResultVar := [.tmp 4]
noncomputable def f_q0e_L (r : List A) : Nat → AS → Option (List A) := L f_q0e_X (cnOf f_q0e_LV) f_q0e_c (K0 TT f_q0e_rv) r
theorem f_q0e_ctx : CtxOK Tryz.prog f_q0e_X := ctx_of tab mix trivial
noncomputable def f_q0e_s4 (x0 x1 : Int) (x2 x3 : List Int) : AS := ⟨[(0, .a (.sl 0)), (1, .a (.sl 1)), (12, .a (.v (.int .i64 x0))), (13, .a (.v (.int .i64 x1)))], [(0, some ⟨false, .arr (.one (.i .i16)) x2⟩), (1, some ⟨false, .arr (.one (.i .i16)) x3⟩)], 2⟩
noncomputable def l_q0e (r : Bool) : List A := [.v (.bool r)]
theorem f_q0e_step4 (x0 x1 : Int) (x2 x3 : List Int) (r : List A) (h : (cond (decide (x1 < x0)) (cond (inB x1 (List.length x2)) (cond (inB x1 (List.length x3)) (cond ((List.getD x2 (Int.toNat x1) 0) != (List.getD x3 (Int.toNat x1) 0)) (some [.v (.bool false)]) (f_q0e_L r 4 (f_q0e_s4 x0 (IntKind.wrap .i64 (x1 + 1)) x2 x3))) none) none) (some [.v (.bool true)])) = some r) : f_q0e_L r 4 (f_q0e_s4 x0 x1 x2 x3) = some r :=
 step_of' h (by kernel_rfl)
noncomputable def f_q0e_n4 (x0 x1 : Int) (x2 x3 : List Int) : Option ((Int × Int × (List Int) × (List Int)) ⊕ Bool) := (cond (decide (x1 < x0)) (cond (inB x1 (List.length x2)) (cond (inB x1 (List.length x3)) (cond ((List.getD x2 (Int.toNat x1) 0) != (List.getD x3 (Int.toNat x1) 0)) (some (Sum.inr false)) (some (Sum.inl (x0, (IntKind.wrap .i64 (x1 + 1)), x2, x3)))) none) none) (some (Sum.inr true)))
noncomputable def f_q0e_run4 (x : (Int × Int × (List Int) × (List Int))) : Option Bool := iter (fun x => f_q0e_n4 x.1 x.2.1 x.2.2.1 x.2.2.2) FU x
noncomputable def f_q0e_G4 (r : List A) (x : (Int × Int × (List Int) × (List Int))) : Prop := f_q0e_L r 4 (f_q0e_s4 x.1 x.2.1 x.2.2.1 x.2.2.2) = some r
noncomputable def f_q0e_S4 (r : List A) : Bool → Prop := fun v => r = l_q0e v
theorem f_q0e_go4 (r : List A) : ∀ x, sem (f_q0e_S4 r) (f_q0e_run4 x) → f_q0e_G4 r x :=
 fun x => iter_sound (step := fun x => f_q0e_n4 x.1 x.2.1 x.2.2.1 x.2.2.2) (fun x h => by
  unfold f_q0e_n4 at h
  exact f_q0e_step4 x.1 x.2.1 x.2.2.1 x.2.2.2 r ((sem_cond h (fun h => (sem_cond h (fun h => (sem_cond h (fun h => (sem_cond h (fun h => sem_got h fun q => some_eq q) (fun h => sem_got h fun q => q))) (fun h => sem_none h))) (fun h => sem_none h))) (fun h => sem_got h fun q => some_eq q)))) FU x
noncomputable def s_q0e (a0 a1 : List Int) : Option Bool := (cond (((List.length a0 : Nat) : Int) != ((List.length a1 : Nat) : Int)) (some false) (f_q0e_run4 (((List.length a0 : Nat) : Int), 0, a0, a1)))
theorem f_q0e_top (a0 a1 : List Int) (r : List A) : ev f_q0e_X (lpc (cnOf f_q0e_LV) (f_q0e_L r)) f_q0e_c (K0 TT f_q0e_rv) (enter [.lst (.one (.i .i16)) a0, .lst (.one (.i .i16)) a1]) = (cond (((List.length a0 : Nat) : Int) != ((List.length a1 : Nat) : Int)) (some [.v (.bool false)]) (f_q0e_L r 4 (f_q0e_s4 ((List.length a0 : Nat) : Int) 0 a0 a1))) := by kernel_rfl
theorem s_q0e_ok (a0 a1 : List Int) (v : Bool) (h : s_q0e a0 a1 = some v) : (cond (((List.length a0 : Nat) : Int) != ((List.length a1 : Nat) : Int)) (some [.v (.bool false)]) (f_q0e_L (l_q0e v) 4 (f_q0e_s4 ((List.length a0 : Nat) : Int) 0 a0 a1))) = some (l_q0e v) := by
 unfold s_q0e at h
 have go : ∀ r, sem (fun v => r = l_q0e v) ((cond (((List.length a0 : Nat) : Int) != ((List.length a1 : Nat) : Int)) (some false) (f_q0e_run4 (((List.length a0 : Nat) : Int), 0, a0, a1)))) → (cond (((List.length a0 : Nat) : Int) != ((List.length a1 : Nat) : Int)) (some [.v (.bool false)]) (f_q0e_L r 4 (f_q0e_s4 ((List.length a0 : Nat) : Int) 0 a0 a1))) = some r := fun r h => (sem_cond h (fun h => sem_got h fun q => some_eq q) (fun h => f_q0e_go4 r _ h))
 exact go (l_q0e v) ⟨v, h, rfl⟩
noncomputable def c_q0e : List A → ACall
 | [.lst (.one (.i .i16)) a0, .lst (.one (.i .i16)) a1] => ⟨Bool, s_q0e a0 a1, fun r => .one (.v (.bool r))⟩
 | _ => ACall.fail
theorem f_q0e_sound : Sound Tryz.prog 82 c_q0e := by
 refine sound_good f_q0e_ctx f_q0e_LV 2 Tryz.func82 (c := f_q0e_c) (by kernel_rfl) (rv := f_q0e_rv) (by kernel_rfl) (by kernel_rfl) (by kernel_rfl) (by kernel_rfl) fun rs => ?_
 unfold c_q0e
 split
 ·rename_i a0 a1; intro v h; exact ⟨rfl, l_q0e v, rfl, (f_q0e_top a0 a1 _).trans (s_q0e_ok a0 a1 v h)⟩
 ·intro v h; cases h
noncomputable def f_q18_c : Code := match Tryz.f14.body with | some c => c | none => .skip
noncomputable def f_q18_X : Ctx := ⟨TT, phiOf [(82, c_q0e)], noPsi, noXi⟩
def f_q18_LV : List (Nat × Keep) := []
def f_q18_rv : List ResultVar := [.tmp 4]
noncomputable def f_q18_L (r : List A) : Nat → AS → Option (List A) := L f_q18_X (cnOf f_q18_LV) f_q18_c (K0 TT f_q18_rv) r
theorem f_q18_ctx : CtxOK Tryz.prog f_q18_X := ctx_of tab mix ⟨⟨Tryz.call82, f_q0e_sound⟩, trivial⟩
noncomputable def s_q18 (a0 a1 : List Int) : Option Bool := (Option.bind (s_q0e a0 a1) fun r1 => (some r1))
theorem f_q18_top (a0 a1 : List Int) (r : List A) : ev f_q18_X (lpc (cnOf f_q18_LV) (f_q18_L r)) f_q18_c (K0 TT f_q18_rv) (enter [.lst (.one (.i .i16)) a0, .lst (.one (.i .i16)) a1]) = (Option.bind (s_q0e a0 a1) fun r1 => (some [.v (.bool r1)])) := by kernel_rfl
noncomputable def l_q18 (r : Bool) : List A := [.v (.bool r)]
theorem s_q18_ok (a0 a1 : List Int) (v : Bool) (h : s_q18 a0 a1 = some v) : (Option.bind (s_q0e a0 a1) fun r1 => (some [.v (.bool r1)])) = some (l_q18 v) := by
 have e : (Option.bind (s_q0e a0 a1) fun r1 => (some [.v (.bool r1)])) = Option.map l_q18 (s_q18 a0 a1) := by
  unfold s_q18
  exact (bind_app fun _ => rfl)
 rw [e, h]; rfl
noncomputable def c_q18 : List A → ACall
 | [.lst (.one (.i .i16)) a0, .lst (.one (.i .i16)) a1] => ⟨Bool, s_q18 a0 a1, fun r => .one (.v (.bool r))⟩
 | _ => ACall.fail
theorem f_q18_sound : Sound Tryz.prog 14 c_q18 := by
 refine sound_good f_q18_ctx f_q18_LV 2 Tryz.func14 (c := f_q18_c) (by kernel_rfl) (rv := f_q18_rv) (by kernel_rfl) (by kernel_rfl) (by kernel_rfl) (by kernel_rfl) fun rs => ?_
 unfold c_q18
 split
 ·rename_i a0 a1; intro v h; exact ⟨rfl, l_q18 v, rfl, (f_q18_top a0 a1 _).trans (s_q18_ok a0 a1 v h)⟩
 ·intro v h; cases h
noncomputable def f_q1g_c : Code := match Tryz.f83.body with | some c => c | none => .skip
noncomputable def f_q1g_X : Ctx := ⟨TT, phiOf [], noPsi, noXi⟩
def f_q1g_LV : List (Nat × Keep) := [(4, ([0, 1, 5], [], []))]
def f_q1g_rv : List ResultVar := [.tmp 4]
noncomputable def f_q1g_L (r : List A) : Nat → AS → Option (List A) := L f_q1g_X (cnOf f_q1g_LV) f_q1g_c (K0 TT f_q1g_rv) r
theorem f_q1g_ctx : CtxOK Tryz.prog f_q1g_X := ctx_of tab mix trivial
noncomputable def f_q1g_s4 (x0 : Int) (x1 x2 : List Int) : AS := ⟨[(0, .a (.sl 0)), (1, .a (.sl 1)), (5, .a (.v (.int .i64 x0)))], [(0, some ⟨false, .arr (.one (.i .i16)) x1⟩), (1, some ⟨false, .arr (.one (.i .i16)) x2⟩)], 2⟩
noncomputable def l_q1g (r : Bool) : List A := [.v (.bool r)]
theorem f_q1g_step4 (x0 : Int) (x1 x2 : List Int) (r : List A) (h : (cond (decide (x0 < ((List.length x1 : Nat) : Int))) (cond (inB x0 (List.length x1)) (cond (inB x0 (List.length x2)) (cond ((List.getD x1 (Int.toNat x0) 0) != (List.getD x2 (Int.toNat x0) 0)) (some [.v (.bool false)]) (f_q1g_L r 4 (f_q1g_s4 (IntKind.wrap .i64 (x0 + 1)) x1 x2))) none) none) (some [.v (.bool true)])) = some r) : f_q1g_L r 4 (f_q1g_s4 x0 x1 x2) = some r :=
 step_of' h (by kernel_rfl)
noncomputable def f_q1g_n4 (x0 : Int) (x1 x2 : List Int) : Option ((Int × (List Int) × (List Int)) ⊕ Bool) := (cond (decide (x0 < ((List.length x1 : Nat) : Int))) (cond (inB x0 (List.length x1)) (cond (inB x0 (List.length x2)) (cond ((List.getD x1 (Int.toNat x0) 0) != (List.getD x2 (Int.toNat x0) 0)) (some (Sum.inr false)) (some (Sum.inl ((IntKind.wrap .i64 (x0 + 1)), x1, x2)))) none) none) (some (Sum.inr true)))
noncomputable def f_q1g_run4 (x : (Int × (List Int) × (List Int))) : Option Bool := iter (fun x => f_q1g_n4 x.1 x.2.1 x.2.2) FU x
noncomputable def f_q1g_G4 (r : List A) (x : (Int × (List Int) × (List Int))) : Prop := f_q1g_L r 4 (f_q1g_s4 x.1 x.2.1 x.2.2) = some r
noncomputable def f_q1g_S4 (r : List A) : Bool → Prop := fun v => r = l_q1g v
theorem f_q1g_go4 (r : List A) : ∀ x, sem (f_q1g_S4 r) (f_q1g_run4 x) → f_q1g_G4 r x :=
 fun x => iter_sound (step := fun x => f_q1g_n4 x.1 x.2.1 x.2.2) (fun x h => by
  unfold f_q1g_n4 at h
  exact f_q1g_step4 x.1 x.2.1 x.2.2 r ((sem_cond h (fun h => (sem_cond h (fun h => (sem_cond h (fun h => (sem_cond h (fun h => sem_got h fun q => some_eq q) (fun h => sem_got h fun q => q))) (fun h => sem_none h))) (fun h => sem_none h))) (fun h => sem_got h fun q => some_eq q)))) FU x
noncomputable def s_q1g (a0 a1 : List Int) : Option Bool := (cond (((List.length a0 : Nat) : Int) != ((List.length a1 : Nat) : Int)) (some false) (f_q1g_run4 (0, a0, a1)))
theorem f_q1g_top (a0 a1 : List Int) (r : List A) : ev f_q1g_X (lpc (cnOf f_q1g_LV) (f_q1g_L r)) f_q1g_c (K0 TT f_q1g_rv) (enter [.lst (.one (.i .i16)) a0, .lst (.one (.i .i16)) a1]) = (cond (((List.length a0 : Nat) : Int) != ((List.length a1 : Nat) : Int)) (some [.v (.bool false)]) (f_q1g_L r 4 (f_q1g_s4 0 a0 a1))) := by kernel_rfl
theorem s_q1g_ok (a0 a1 : List Int) (v : Bool) (h : s_q1g a0 a1 = some v) : (cond (((List.length a0 : Nat) : Int) != ((List.length a1 : Nat) : Int)) (some [.v (.bool false)]) (f_q1g_L (l_q1g v) 4 (f_q1g_s4 0 a0 a1))) = some (l_q1g v) := by
 unfold s_q1g at h
 have go : ∀ r, sem (fun v => r = l_q1g v) ((cond (((List.length a0 : Nat) : Int) != ((List.length a1 : Nat) : Int)) (some false) (f_q1g_run4 (0, a0, a1)))) → (cond (((List.length a0 : Nat) : Int) != ((List.length a1 : Nat) : Int)) (some [.v (.bool false)]) (f_q1g_L r 4 (f_q1g_s4 0 a0 a1))) = some r := fun r h => (sem_cond h (fun h => sem_got h fun q => some_eq q) (fun h => f_q1g_go4 r _ h))
 exact go (l_q1g v) ⟨v, h, rfl⟩
noncomputable def c_q1g : List A → ACall
 | [.lst (.one (.i .i16)) a0, .lst (.one (.i .i16)) a1] => ⟨Bool, s_q1g a0 a1, fun r => .one (.v (.bool r))⟩
 | _ => ACall.fail
theorem f_q1g_sound : Sound Tryz.prog 83 c_q1g := by
 refine sound_good f_q1g_ctx f_q1g_LV 2 Tryz.func83 (c := f_q1g_c) (by kernel_rfl) (rv := f_q1g_rv) (by kernel_rfl) (by kernel_rfl) (by kernel_rfl) (by kernel_rfl) fun rs => ?_
 unfold c_q1g
 split
 ·rename_i a0 a1; intro v h; exact ⟨rfl, l_q1g v, rfl, (f_q1g_top a0 a1 _).trans (s_q1g_ok a0 a1 v h)⟩
 ·intro v h; cases h
noncomputable def f_q1c_c : Code := match Tryz.f15.body with | some c => c | none => .skip
noncomputable def f_q1c_X : Ctx := ⟨TT, phiOf [(83, c_q1g)], noPsi, noXi⟩
def f_q1c_LV : List (Nat × Keep) := []
def f_q1c_rv : List ResultVar := [.tmp 4]
noncomputable def f_q1c_L (r : List A) : Nat → AS → Option (List A) := L f_q1c_X (cnOf f_q1c_LV) f_q1c_c (K0 TT f_q1c_rv) r
theorem f_q1c_ctx : CtxOK Tryz.prog f_q1c_X := ctx_of tab mix ⟨⟨Tryz.call83, f_q1g_sound⟩, trivial⟩
noncomputable def s_q1c (a0 a1 : List Int) : Option Bool := (Option.bind (s_q1g a0 a1) fun r1 => (some r1))
theorem f_q1c_top (a0 a1 : List Int) (r : List A) : ev f_q1c_X (lpc (cnOf f_q1c_LV) (f_q1c_L r)) f_q1c_c (K0 TT f_q1c_rv) (enter [.lst (.one (.i .i16)) a0, .lst (.one (.i .i16)) a1]) = (Option.bind (s_q1g a0 a1) fun r1 => (some [.v (.bool r1)])) := by kernel_rfl
noncomputable def l_q1c (r : Bool) : List A := [.v (.bool r)]
theorem s_q1c_ok (a0 a1 : List Int) (v : Bool) (h : s_q1c a0 a1 = some v) : (Option.bind (s_q1g a0 a1) fun r1 => (some [.v (.bool r1)])) = some (l_q1c v) := by
 have e : (Option.bind (s_q1g a0 a1) fun r1 => (some [.v (.bool r1)])) = Option.map l_q1c (s_q1c a0 a1) := by
  unfold s_q1c
  exact (bind_app fun _ => rfl)
 rw [e, h]; rfl
noncomputable def c_q1c : List A → ACall
 | [.lst (.one (.i .i16)) a0, .lst (.one (.i .i16)) a1] => ⟨Bool, s_q1c a0 a1, fun r => .one (.v (.bool r))⟩
 | _ => ACall.fail
theorem f_q1c_sound : Sound Tryz.prog 15 c_q1c := by
 refine sound_good f_q1c_ctx f_q1c_LV 2 Tryz.func15 (c := f_q1c_c) (by kernel_rfl) (rv := f_q1c_rv) (by kernel_rfl) (by kernel_rfl) (by kernel_rfl) (by kernel_rfl) fun rs => ?_
 unfold c_q1c
 split
 ·rename_i a0 a1; intro v h; exact ⟨rfl, l_q1c v, rfl, (f_q1c_top a0 a1 _).trans (s_q1c_ok a0 a1 v h)⟩
 ·intro v h; cases h
end Go.RR
