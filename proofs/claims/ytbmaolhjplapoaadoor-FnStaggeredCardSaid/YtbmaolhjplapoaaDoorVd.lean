/- Rows: lengths, joints, bricks. -/
import Derived.Test.YtbmaolhjplapoaaDoorVc
set_option linter.unusedVariables false
set_option linter.unusedSimpArgs false
set_option linter.unusedSectionVars false
set_option maxRecDepth 100000
namespace Go.RR
open Go Go.Proofs

/-! ### function 46: loop.example/g01322/impl.isSeam -/
noncomputable def f_iisSeam_c : Code := match Tryd.f46.body with | some c => c | none => .skip
noncomputable def f_iisSeam_X : Ctx := ⟨TT, phiOf [(54, c_iwithin)], noPsi, noXi⟩
def f_iisSeam_LV : List (Nat × Keep) := []
def f_iisSeam_rv : List ResultVar := [.tmp 2]
noncomputable def f_iisSeam_L (r : List A) : Nat → AS → Option (List A) := L f_iisSeam_X (cnOf f_iisSeam_LV) f_iisSeam_c (K0 TT f_iisSeam_rv) r
theorem f_iisSeam_ctx : CtxOK Tryd.prog f_iisSeam_X := ctx_of tab mix ⟨⟨Tryd.call54, f_iwithin_sound⟩, trivial⟩
noncomputable def s_iisSeam (a0 : Int) : Bool := (s_iwithin a0 0 200)
theorem f_iisSeam_top (a0 : Int) (r : List A) : ev f_iisSeam_X (lpc (cnOf f_iisSeam_LV) (f_iisSeam_L r)) f_iisSeam_c (K0 TT f_iisSeam_rv) (enter [.v (.int .i64 a0)]) = (some [.v (.bool (s_iwithin a0 0 200))]) := by kernel_rfl
noncomputable def l_iisSeam (r : Bool) : List A := [.v (.bool r)]
theorem s_iisSeam_ok (a0 : Int) : (some [.v (.bool (s_iwithin a0 0 200))]) = some (l_iisSeam (s_iisSeam a0)) := by
  unfold s_iisSeam
  exact rfl
noncomputable def c_iisSeam : List A → ACall
  | [.v (.int .i64 a0)] => ⟨Bool, some (s_iisSeam a0), fun r => .one (.v (.bool r))⟩
  | _ => ACall.fail
theorem f_iisSeam_sound : Sound Tryd.prog 46 c_iisSeam := by
  refine sound_good f_iisSeam_ctx f_iisSeam_LV 1 Tryd.func46 (c := f_iisSeam_c) (by kernel_rfl) (rv := f_iisSeam_rv) (by kernel_rfl) (by kernel_rfl) (by kernel_rfl) (by kernel_rfl) fun rs => ?_
  unfold c_iisSeam
  split
  · rename_i a0; intro v h; cases h; exact ⟨rfl, l_iisSeam (s_iisSeam a0), rfl, (f_iisSeam_top a0 _).trans (s_iisSeam_ok a0)⟩
  · intro v h; cases h

/-! ### function 48: loop.example/g01322/impl.brick -/
noncomputable def f_ibrick_c : Code := match Tryd.f48.body with | some c => c | none => .skip
noncomputable def f_ibrick_X : Ctx := ⟨TT, phiOf [(47, c_iisWidth)], noPsi, noXi⟩
def f_ibrick_LV : List (Nat × Keep) := [(3, ([1, 2, 10, 11], [], [])), (13, ([12, 65, 66, 67], [], []))]
def f_ibrick_rv : List ResultVar := [.tmp 8, .tmp 9]
noncomputable def f_ibrick_L (r : List A) : Nat → AS → Option (List A) := L f_ibrick_X (cnOf f_ibrick_LV) f_ibrick_c (K0 TT f_ibrick_rv) r
theorem f_ibrick_ctx : CtxOK Tryd.prog f_ibrick_X := ctx_of tab mix ⟨⟨Tryd.call47, f_iisWidth_sound⟩, trivial⟩
noncomputable def f_ibrick_s3 (x0 : Int) (x1 : Int) (x2 : Int) (x3 : (List Int)) : AS := ⟨[(1, .a (.v (.int .i64 x0))), (2, .a (.v (.int .i64 x1))), (10, .a (.sl 0)), (11, .a (.v (.int .i64 x2)))], [(0, some ⟨true, .arr (.one (.i .i64)) x3⟩)], 1⟩
noncomputable def f_ibrick_s13 (x0 : Int) (x1 : Int) (x2 : (List Int)) (x3 : (List Int)) : AS := ⟨[(12, .a (.sl 0)), (65, .a (.sl 1)), (66, .a (.v (.int .i64 x0))), (67, .a (.v (.int .i64 x1)))], [(0, some ⟨true, .arr (.one (.i .i16)) x2⟩), (1, some ⟨true, .arr (.one (.i .i64)) x3⟩)], 2⟩
noncomputable def l_ibrick (r : ((List Int) × Bool)) : List A := [.lst (.one (.i .i16)) r.1, .v (.bool r.2)]
theorem f_ibrick_step13 (x0 : Int) (x1 : Int) (x2 : (List Int)) (x3 : (List Int)) (r : List A) (h : (cond (decide (x1 < x0)) (cond (inB x1 (List.length x3)) (cond (fits ((List.length (x2 : List Int) + List.length ([(IntKind.wrap .i16 (List.getD x3 (Int.toNat x1) 0))] : List Int)) * 2)) (f_ibrick_L r 13 (f_ibrick_s13 x0 (IntKind.wrap .i64 (x1 + 1)) (x2 ++ [(IntKind.wrap .i16 (List.getD x3 (Int.toNat x1) 0))]) x3)) none) none) (some [.lst (.one (.i .i16)) x2, .v (.bool true)])) = some r) : f_ibrick_L r 13 (f_ibrick_s13 x0 x1 x2 x3) = some r :=
  step_of' h (by kernel_rfl)
noncomputable def f_ibrick_n13 (x0 : Int) (x1 : Int) (x2 : (List Int)) (x3 : (List Int)) : Option ((Int × Int × (List Int) × (List Int)) ⊕ ((List Int) × Bool)) := (cond (decide (x1 < x0)) (cond (inB x1 (List.length x3)) (cond (fits ((List.length (x2 : List Int) + List.length ([(IntKind.wrap .i16 (List.getD x3 (Int.toNat x1) 0))] : List Int)) * 2)) (some (Sum.inl (x0, (IntKind.wrap .i64 (x1 + 1)), (x2 ++ [(IntKind.wrap .i16 (List.getD x3 (Int.toNat x1) 0))]), x3))) none) none) (some (Sum.inr (x2, true))))
noncomputable def f_ibrick_run13 (x : (Int × Int × (List Int) × (List Int))) : Option ((List Int) × Bool) := iter (fun x => f_ibrick_n13 x.1 x.2.1 x.2.2.1 x.2.2.2) FU x
noncomputable def f_ibrick_G13 (r : List A) (x : (Int × Int × (List Int) × (List Int))) : Prop := f_ibrick_L r 13 (f_ibrick_s13 x.1 x.2.1 x.2.2.1 x.2.2.2) = some r
theorem f_ibrick_step3 (x0 : Int) (x1 : Int) (x2 : Int) (x3 : (List Int)) (r : List A) (h : (cond (decide (x2 ≥ (IntKind.wrap .i64 (x0 + x1)))) (cond (fits ((List.length (x3 : List Int) + List.length ([x1] : List Int)) * 8)) (f_ibrick_L r 3 (f_ibrick_s3 x0 x1 (IntKind.wrap .i64 (x2 - (IntKind.wrap .i64 (x0 + x1)))) (x3 ++ [x1]))) none) (cond (decide (x2 > x0)) (cond (fits ((List.length (x3 : List Int) + List.length ([(IntKind.wrap .i64 (x2 - x0))] : List Int)) * 8)) (cond (decide (((List.length (x3 ++ [(IntKind.wrap .i64 (x2 - x0))]) : Nat) : Int) > 60)) (some [.lst (.one (.i .i16)) [], .v (.bool false)]) (Option.bind (s_iisWidth (x3 ++ [(IntKind.wrap .i64 (x2 - x0))])) fun r1 => (cond (!r1) (some [.lst (.one (.i .i16)) [], .v (.bool false)]) (f_ibrick_L r 13 (f_ibrick_s13 ((List.length (x3 ++ [(IntKind.wrap .i64 (x2 - x0))]) : Nat) : Int) 0 [] (x3 ++ [(IntKind.wrap .i64 (x2 - x0))])))))) none) (cond (inB (IntKind.wrap .i64 (((List.length x3 : Nat) : Int) - 1)) (List.length x3)) (cond (inB (IntKind.wrap .i64 (((List.length x3 : Nat) : Int) - 1)) (List.length x3)) (cond (decide (((List.length (List.set x3 (Int.toNat (IntKind.wrap .i64 (((List.length x3 : Nat) : Int) - 1))) (IntKind.wrap .i64 ((List.getD x3 (Int.toNat (IntKind.wrap .i64 (((List.length x3 : Nat) : Int) - 1))) 0) + x2))) : Nat) : Int) > 60)) (some [.lst (.one (.i .i16)) [], .v (.bool false)]) (Option.bind (s_iisWidth (List.set x3 (Int.toNat (IntKind.wrap .i64 (((List.length x3 : Nat) : Int) - 1))) (IntKind.wrap .i64 ((List.getD x3 (Int.toNat (IntKind.wrap .i64 (((List.length x3 : Nat) : Int) - 1))) 0) + x2)))) fun r2 => (cond (!r2) (some [.lst (.one (.i .i16)) [], .v (.bool false)]) (f_ibrick_L r 13 (f_ibrick_s13 ((List.length (List.set x3 (Int.toNat (IntKind.wrap .i64 (((List.length x3 : Nat) : Int) - 1))) (IntKind.wrap .i64 ((List.getD x3 (Int.toNat (IntKind.wrap .i64 (((List.length x3 : Nat) : Int) - 1))) 0) + x2))) : Nat) : Int) 0 [] (List.set x3 (Int.toNat (IntKind.wrap .i64 (((List.length x3 : Nat) : Int) - 1))) (IntKind.wrap .i64 ((List.getD x3 (Int.toNat (IntKind.wrap .i64 (((List.length x3 : Nat) : Int) - 1))) 0) + x2)))))))) none) none))) = some r) : f_ibrick_L r 3 (f_ibrick_s3 x0 x1 x2 x3) = some r :=
  step_of' h (by kernel_rfl)
noncomputable def f_ibrick_n3 (x0 : Int) (x1 : Int) (x2 : Int) (x3 : (List Int)) : Option ((Int × Int × Int × (List Int)) ⊕ ((List Int) × Bool)) := (cond (decide (x2 ≥ (IntKind.wrap .i64 (x0 + x1)))) (cond (fits ((List.length (x3 : List Int) + List.length ([x1] : List Int)) * 8)) (some (Sum.inl (x0, x1, (IntKind.wrap .i64 (x2 - (IntKind.wrap .i64 (x0 + x1)))), (x3 ++ [x1])))) none) (cond (decide (x2 > x0)) (cond (fits ((List.length (x3 : List Int) + List.length ([(IntKind.wrap .i64 (x2 - x0))] : List Int)) * 8)) (cond (decide (((List.length (x3 ++ [(IntKind.wrap .i64 (x2 - x0))]) : Nat) : Int) > 60)) (some (Sum.inr ([], false))) (Option.bind (s_iisWidth (x3 ++ [(IntKind.wrap .i64 (x2 - x0))])) fun r1 => (cond (!r1) (some (Sum.inr ([], false))) (Option.map (fun x => (Sum.inr x)) (f_ibrick_run13 (((List.length (x3 ++ [(IntKind.wrap .i64 (x2 - x0))]) : Nat) : Int), 0, [], (x3 ++ [(IntKind.wrap .i64 (x2 - x0))]))))))) none) (cond (inB (IntKind.wrap .i64 (((List.length x3 : Nat) : Int) - 1)) (List.length x3)) (cond (inB (IntKind.wrap .i64 (((List.length x3 : Nat) : Int) - 1)) (List.length x3)) (cond (decide (((List.length (List.set x3 (Int.toNat (IntKind.wrap .i64 (((List.length x3 : Nat) : Int) - 1))) (IntKind.wrap .i64 ((List.getD x3 (Int.toNat (IntKind.wrap .i64 (((List.length x3 : Nat) : Int) - 1))) 0) + x2))) : Nat) : Int) > 60)) (some (Sum.inr ([], false))) (Option.bind (s_iisWidth (List.set x3 (Int.toNat (IntKind.wrap .i64 (((List.length x3 : Nat) : Int) - 1))) (IntKind.wrap .i64 ((List.getD x3 (Int.toNat (IntKind.wrap .i64 (((List.length x3 : Nat) : Int) - 1))) 0) + x2)))) fun r2 => (cond (!r2) (some (Sum.inr ([], false))) (Option.map (fun x => (Sum.inr x)) (f_ibrick_run13 (((List.length (List.set x3 (Int.toNat (IntKind.wrap .i64 (((List.length x3 : Nat) : Int) - 1))) (IntKind.wrap .i64 ((List.getD x3 (Int.toNat (IntKind.wrap .i64 (((List.length x3 : Nat) : Int) - 1))) 0) + x2))) : Nat) : Int), 0, [], (List.set x3 (Int.toNat (IntKind.wrap .i64 (((List.length x3 : Nat) : Int) - 1))) (IntKind.wrap .i64 ((List.getD x3 (Int.toNat (IntKind.wrap .i64 (((List.length x3 : Nat) : Int) - 1))) 0) + x2))))))))) none) none)))
noncomputable def f_ibrick_run3 (x : (Int × Int × Int × (List Int))) : Option ((List Int) × Bool) := iter (fun x => f_ibrick_n3 x.1 x.2.1 x.2.2.1 x.2.2.2) FU x
noncomputable def f_ibrick_G3 (r : List A) (x : (Int × Int × Int × (List Int))) : Prop := f_ibrick_L r 3 (f_ibrick_s3 x.1 x.2.1 x.2.2.1 x.2.2.2) = some r
noncomputable def f_ibrick_S13 (r : List A) : ((List Int) × Bool) → Prop := fun v => r = l_ibrick v
noncomputable def f_ibrick_S3 (r : List A) : ((List Int) × Bool) → Prop := fun v => r = l_ibrick v
theorem f_ibrick_go13 (r : List A) : ∀ x, sem (f_ibrick_S13 r) (f_ibrick_run13 x) → f_ibrick_G13 r x :=
  fun x => iter_sound (step := fun x => f_ibrick_n13 x.1 x.2.1 x.2.2.1 x.2.2.2) (fun x h => by
    unfold f_ibrick_n13 at h
    exact f_ibrick_step13 x.1 x.2.1 x.2.2.1 x.2.2.2 r ((sem_cond h (fun h => (sem_cond h (fun h => (sem_cond h (fun h => sem_got h fun q => q) (fun h => sem_none h))) (fun h => sem_none h))) (fun h => sem_got h fun q => some_eq q)))) FU x
theorem f_ibrick_go3 (r : List A) : ∀ x, sem (f_ibrick_S3 r) (f_ibrick_run3 x) → f_ibrick_G3 r x :=
  fun x => iter_sound (step := fun x => f_ibrick_n3 x.1 x.2.1 x.2.2.1 x.2.2.2) (fun x h => by
    unfold f_ibrick_n3 at h
    exact f_ibrick_step3 x.1 x.2.1 x.2.2.1 x.2.2.2 r ((sem_cond h (fun h => (sem_cond h (fun h => sem_got h fun q => q) (fun h => sem_none h))) (fun h => (sem_cond h (fun h => (sem_cond h (fun h => (sem_cond h (fun h => sem_got h fun q => some_eq q) (fun h => (sem_bind h fun r1 h => (sem_cond h (fun h => sem_got h fun q => some_eq q) (fun h => f_ibrick_go13 r _ (sem_mapk h fun _ q => q))))))) (fun h => sem_none h))) (fun h => (sem_cond h (fun h => (sem_cond h (fun h => (sem_cond h (fun h => sem_got h fun q => some_eq q) (fun h => (sem_bind h fun r2 h => (sem_cond h (fun h => sem_got h fun q => some_eq q) (fun h => f_ibrick_go13 r _ (sem_mapk h fun _ q => q))))))) (fun h => sem_none h))) (fun h => sem_none h)))))))) FU x
noncomputable def s_ibrick (a0 : Int) (a1 : Int) (a2 : Int) (a3 : Int) : Option ((List Int) × Bool) := (cond (inB 0 (List.length [(min a3 a0)])) (f_ibrick_run3 (a1, a2, (IntKind.wrap .i64 (a0 - (List.getD [(min a3 a0)] 0 0))), [(min a3 a0)])) none)
theorem f_ibrick_top (a0 : Int) (a1 : Int) (a2 : Int) (a3 : Int) (r : List A) : ev f_ibrick_X (lpc (cnOf f_ibrick_LV) (f_ibrick_L r)) f_ibrick_c (K0 TT f_ibrick_rv) (enter [.v (.int .i64 a0), .v (.int .i64 a1), .v (.int .i64 a2), .v (.int .i64 a3)]) = (cond (inB 0 (List.length [(min a3 a0)])) (f_ibrick_L r 3 (f_ibrick_s3 a1 a2 (IntKind.wrap .i64 (a0 - (List.getD [(min a3 a0)] 0 0))) [(min a3 a0)])) none) := by kernel_rfl
theorem s_ibrick_ok (a0 : Int) (a1 : Int) (a2 : Int) (a3 : Int) (v : ((List Int) × Bool)) (h : s_ibrick a0 a1 a2 a3 = some v) : (cond (inB 0 (List.length [(min a3 a0)])) (f_ibrick_L (l_ibrick v) 3 (f_ibrick_s3 a1 a2 (IntKind.wrap .i64 (a0 - (List.getD [(min a3 a0)] 0 0))) [(min a3 a0)])) none) = some (l_ibrick v) := by
  unfold s_ibrick at h
  have go : ∀ r, sem (fun v => r = l_ibrick v) ((cond (inB 0 (List.length [(min a3 a0)])) (f_ibrick_run3 (a1, a2, (IntKind.wrap .i64 (a0 - (List.getD [(min a3 a0)] 0 0))), [(min a3 a0)])) none)) → (cond (inB 0 (List.length [(min a3 a0)])) (f_ibrick_L r 3 (f_ibrick_s3 a1 a2 (IntKind.wrap .i64 (a0 - (List.getD [(min a3 a0)] 0 0))) [(min a3 a0)])) none) = some r := fun r h => (sem_cond h (fun h => f_ibrick_go3 r _ h) (fun h => sem_none h))
  exact go (l_ibrick v) ⟨v, h, rfl⟩
noncomputable def c_ibrick : List A → ACall
  | [.v (.int .i64 a0), .v (.int .i64 a1), .v (.int .i64 a2), .v (.int .i64 a3)] => ⟨((List Int) × Bool), s_ibrick a0 a1 a2 a3, fun r => .tup [.lst (.one (.i .i16)) r.1, .v (.bool r.2)]⟩
  | _ => ACall.fail
theorem f_ibrick_sound : Sound Tryd.prog 48 c_ibrick := by
  refine sound_good f_ibrick_ctx f_ibrick_LV 4 Tryd.func48 (c := f_ibrick_c) (by kernel_rfl) (rv := f_ibrick_rv) (by kernel_rfl) (by kernel_rfl) (by kernel_rfl) (by kernel_rfl) fun rs => ?_
  unfold c_ibrick
  split
  · rename_i a0 a1 a2 a3; intro v h; exact ⟨rfl, l_ibrick v, rfl, (f_ibrick_top a0 a1 a2 a3 _).trans (s_ibrick_ok a0 a1 a2 a3 v h)⟩
  · intro v h; cases h

/-! ### function 13: loop.example/g01322/impl.BrickRow -/
noncomputable def f_iBrickRow_c : Code := match Tryd.f13.body with | some c => c | none => .skip
noncomputable def f_iBrickRow_X : Ctx := ⟨TT, phiOf [(45, c_iisLong), (46, c_iisSeam), (47, c_iisWidth), (48, c_ibrick)], noPsi, noXi⟩
def f_iBrickRow_LV : List (Nat × Keep) := []
def f_iBrickRow_rv : List ResultVar := [.tmp 8, .tmp 9]
noncomputable def f_iBrickRow_L (r : List A) : Nat → AS → Option (List A) := L f_iBrickRow_X (cnOf f_iBrickRow_LV) f_iBrickRow_c (K0 TT f_iBrickRow_rv) r
theorem f_iBrickRow_ctx : CtxOK Tryd.prog f_iBrickRow_X := ctx_of tab mix ⟨⟨Tryd.call45, f_iisLong_sound⟩, ⟨Tryd.call46, f_iisSeam_sound⟩, ⟨Tryd.call47, f_iisWidth_sound⟩, ⟨Tryd.call48, f_ibrick_sound⟩, trivial⟩
noncomputable def s_iBrickRow (a0 : Int) (a1 : Int) (a2 : Int) (a3 : Int) : Option ((List Int) × Int) := (cond (!(s_iisLong a0)) (some ([], 2)) (cond (!(s_iisSeam a1)) (some ([], 2)) (Option.bind (s_iisWidth [a2, a3]) fun r1 => (cond (!r1) (some ([], 2)) (Option.bind (s_ibrick a0 a1 a2 a3) fun r2 => (cond (!r2.2) (some ([], 6)) (some ((r2.1), 0))))))))
theorem f_iBrickRow_top (a0 : Int) (a1 : Int) (a2 : Int) (a3 : Int) (r : List A) : ev f_iBrickRow_X (lpc (cnOf f_iBrickRow_LV) (f_iBrickRow_L r)) f_iBrickRow_c (K0 TT f_iBrickRow_rv) (enter [.v (.int .i64 a0), .v (.int .i64 a1), .v (.int .i64 a2), .v (.int .i64 a3)]) = (cond (!(s_iisLong a0)) (some [.lst (.one (.i .i16)) [], .v (.int .i64 2)]) (cond (!(s_iisSeam a1)) (some [.lst (.one (.i .i16)) [], .v (.int .i64 2)]) (Option.bind (s_iisWidth [a2, a3]) fun r1 => (cond (!r1) (some [.lst (.one (.i .i16)) [], .v (.int .i64 2)]) (Option.bind (s_ibrick a0 a1 a2 a3) fun r2 => (cond (!r2.2) (some [.lst (.one (.i .i16)) [], .v (.int .i64 6)]) (some [.lst (.one (.i .i16)) r2.1, .v (.int .i64 0)]))))))) := by kernel_rfl
noncomputable def l_iBrickRow (r : ((List Int) × Int)) : List A := [.lst (.one (.i .i16)) r.1, .v (.int .i64 r.2)]
theorem s_iBrickRow_ok (a0 : Int) (a1 : Int) (a2 : Int) (a3 : Int) (v : ((List Int) × Int)) (h : s_iBrickRow a0 a1 a2 a3 = some v) : (cond (!(s_iisLong a0)) (some [.lst (.one (.i .i16)) [], .v (.int .i64 2)]) (cond (!(s_iisSeam a1)) (some [.lst (.one (.i .i16)) [], .v (.int .i64 2)]) (Option.bind (s_iisWidth [a2, a3]) fun r1 => (cond (!r1) (some [.lst (.one (.i .i16)) [], .v (.int .i64 2)]) (Option.bind (s_ibrick a0 a1 a2 a3) fun r2 => (cond (!r2.2) (some [.lst (.one (.i .i16)) [], .v (.int .i64 6)]) (some [.lst (.one (.i .i16)) r2.1, .v (.int .i64 0)]))))))) = some (l_iBrickRow v) := by
  have e : (cond (!(s_iisLong a0)) (some [.lst (.one (.i .i16)) [], .v (.int .i64 2)]) (cond (!(s_iisSeam a1)) (some [.lst (.one (.i .i16)) [], .v (.int .i64 2)]) (Option.bind (s_iisWidth [a2, a3]) fun r1 => (cond (!r1) (some [.lst (.one (.i .i16)) [], .v (.int .i64 2)]) (Option.bind (s_ibrick a0 a1 a2 a3) fun r2 => (cond (!r2.2) (some [.lst (.one (.i .i16)) [], .v (.int .i64 6)]) (some [.lst (.one (.i .i16)) r2.1, .v (.int .i64 0)]))))))) = Option.map l_iBrickRow (s_iBrickRow a0 a1 a2 a3) := by
    unfold s_iBrickRow
    exact (cond_app (Option.map l_iBrickRow) rfl (cond_app (Option.map l_iBrickRow) rfl (bind_app fun _ => (cond_app (Option.map l_iBrickRow) rfl (bind_app fun _ => (cond_app (Option.map l_iBrickRow) rfl rfl))))))
  rw [e, h]; rfl
noncomputable def c_iBrickRow : List A → ACall
  | [.v (.int .i64 a0), .v (.int .i64 a1), .v (.int .i64 a2), .v (.int .i64 a3)] => ⟨((List Int) × Int), s_iBrickRow a0 a1 a2 a3, fun r => .tup [.lst (.one (.i .i16)) r.1, .v (.int .i64 r.2)]⟩
  | _ => ACall.fail
theorem f_iBrickRow_sound : Sound Tryd.prog 13 c_iBrickRow := by
  refine sound_good f_iBrickRow_ctx f_iBrickRow_LV 4 Tryd.func13 (c := f_iBrickRow_c) (by kernel_rfl) (rv := f_iBrickRow_rv) (by kernel_rfl) (by kernel_rfl) (by kernel_rfl) (by kernel_rfl) fun rs => ?_
  unfold c_iBrickRow
  split
  · rename_i a0 a1 a2 a3; intro v h; exact ⟨rfl, l_iBrickRow v, rfl, (f_iBrickRow_top a0 a1 a2 a3 _).trans (s_iBrickRow_ok a0 a1 a2 a3 v h)⟩
  · intro v h; cases h

/-! ### function 88: loop.example/g01322/spec.l05Seam -/
noncomputable def f_sl05Seam_c : Code := match Tryd.f88.body with | some c => c | none => .skip
noncomputable def f_sl05Seam_X : Ctx := ⟨TT, phiOf [(57, c_sl00In)], noPsi, noXi⟩
def f_sl05Seam_LV : List (Nat × Keep) := []
def f_sl05Seam_rv : List ResultVar := [.tmp 2]
noncomputable def f_sl05Seam_L (r : List A) : Nat → AS → Option (List A) := L f_sl05Seam_X (cnOf f_sl05Seam_LV) f_sl05Seam_c (K0 TT f_sl05Seam_rv) r
theorem f_sl05Seam_ctx : CtxOK Tryd.prog f_sl05Seam_X := ctx_of tab mix ⟨⟨Tryd.call57, f_sl00In_sound⟩, trivial⟩
noncomputable def s_sl05Seam (a0 : Int) : Bool := (s_sl00In a0 0 200)
theorem f_sl05Seam_top (a0 : Int) (r : List A) : ev f_sl05Seam_X (lpc (cnOf f_sl05Seam_LV) (f_sl05Seam_L r)) f_sl05Seam_c (K0 TT f_sl05Seam_rv) (enter [.v (.int .i64 a0)]) = (some [.v (.bool (s_sl00In a0 0 200))]) := by kernel_rfl
noncomputable def l_sl05Seam (r : Bool) : List A := [.v (.bool r)]
theorem s_sl05Seam_ok (a0 : Int) : (some [.v (.bool (s_sl00In a0 0 200))]) = some (l_sl05Seam (s_sl05Seam a0)) := by
  unfold s_sl05Seam
  exact rfl
noncomputable def c_sl05Seam : List A → ACall
  | [.v (.int .i64 a0)] => ⟨Bool, some (s_sl05Seam a0), fun r => .one (.v (.bool r))⟩
  | _ => ACall.fail
theorem f_sl05Seam_sound : Sound Tryd.prog 88 c_sl05Seam := by
  refine sound_good f_sl05Seam_ctx f_sl05Seam_LV 1 Tryd.func88 (c := f_sl05Seam_c) (by kernel_rfl) (rv := f_sl05Seam_rv) (by kernel_rfl) (by kernel_rfl) (by kernel_rfl) (by kernel_rfl) fun rs => ?_
  unfold c_sl05Seam
  split
  · rename_i a0; intro v h; cases h; exact ⟨rfl, l_sl05Seam (s_sl05Seam a0), rfl, (f_sl05Seam_top a0 _).trans (s_sl05Seam_ok a0)⟩
  · intro v h; cases h

/-! ### function 49: loop.example/g01322/spec.l05Long -/
noncomputable def f_sl05Long_c : Code := match Tryd.f49.body with | some c => c | none => .skip
noncomputable def f_sl05Long_X : Ctx := ⟨TT, phiOf [(57, c_sl00In), (88, c_sl05Seam)], noPsi, noXi⟩
def f_sl05Long_LV : List (Nat × Keep) := []
def f_sl05Long_rv : List ResultVar := [.tmp 4]
noncomputable def f_sl05Long_L (r : List A) : Nat → AS → Option (List A) := L f_sl05Long_X (cnOf f_sl05Long_LV) f_sl05Long_c (K0 TT f_sl05Long_rv) r
theorem f_sl05Long_ctx : CtxOK Tryd.prog f_sl05Long_X := ctx_of tab mix ⟨⟨Tryd.call57, f_sl00In_sound⟩, ⟨Tryd.call88, f_sl05Seam_sound⟩, trivial⟩
noncomputable def s_sl05Long (a0 : Int) (a1 : Int) : Bool := (cond (s_sl00In a0 1 2000) (s_sl05Seam a1) false)
theorem f_sl05Long_top (a0 : Int) (a1 : Int) (r : List A) : ev f_sl05Long_X (lpc (cnOf f_sl05Long_LV) (f_sl05Long_L r)) f_sl05Long_c (K0 TT f_sl05Long_rv) (enter [.v (.int .i64 a0), .v (.int .i64 a1)]) = (cond (s_sl00In a0 1 2000) (some [.v (.bool (s_sl05Seam a1))]) (some [.v (.bool false)])) := by kernel_rfl
noncomputable def l_sl05Long (r : Bool) : List A := [.v (.bool r)]
theorem s_sl05Long_ok (a0 : Int) (a1 : Int) : (cond (s_sl00In a0 1 2000) (some [.v (.bool (s_sl05Seam a1))]) (some [.v (.bool false)])) = some (l_sl05Long (s_sl05Long a0 a1)) := by
  unfold s_sl05Long
  exact (cond_app (fun x => some (l_sl05Long x)) rfl rfl)
noncomputable def c_sl05Long : List A → ACall
  | [.v (.int .i64 a0), .v (.int .i64 a1)] => ⟨Bool, some (s_sl05Long a0 a1), fun r => .one (.v (.bool r))⟩
  | _ => ACall.fail
theorem f_sl05Long_sound : Sound Tryd.prog 49 c_sl05Long := by
  refine sound_good f_sl05Long_ctx f_sl05Long_LV 2 Tryd.func49 (c := f_sl05Long_c) (by kernel_rfl) (rv := f_sl05Long_rv) (by kernel_rfl) (by kernel_rfl) (by kernel_rfl) (by kernel_rfl) fun rs => ?_
  unfold c_sl05Long
  split
  · rename_i a0 a1; intro v h; cases h; exact ⟨rfl, l_sl05Long (s_sl05Long a0 a1), rfl, (f_sl05Long_top a0 a1 _).trans (s_sl05Long_ok a0 a1)⟩
  · intro v h; cases h

/-! ### function 41: loop.example/g01322/spec.l05Ok -/
noncomputable def f_sl05Ok_c : Code := match Tryd.f41.body with | some c => c | none => .skip
noncomputable def f_sl05Ok_X : Ctx := ⟨TT, phiOf [(40, c_sl05Width), (57, c_sl00In)], noPsi, noXi⟩
def f_sl05Ok_LV : List (Nat × Keep) := [(4, ([0, 3], [], []))]
def f_sl05Ok_rv : List ResultVar := [.tmp 2]
noncomputable def f_sl05Ok_L (r : List A) : Nat → AS → Option (List A) := L f_sl05Ok_X (cnOf f_sl05Ok_LV) f_sl05Ok_c (K0 TT f_sl05Ok_rv) r
theorem f_sl05Ok_ctx : CtxOK Tryd.prog f_sl05Ok_X := ctx_of tab mix ⟨⟨Tryd.call40, f_sl05Width_sound⟩, ⟨Tryd.call57, f_sl00In_sound⟩, trivial⟩
noncomputable def f_sl05Ok_s4 (x0 : Int) (x1 : (List Int)) : AS := ⟨[(0, .a (.sl 0)), (3, .a (.v (.int .i64 x0)))], [(0, some ⟨false, .arr (.one (.i .i16)) x1⟩)], 1⟩
noncomputable def l_sl05Ok (r : Bool) : List A := [.v (.bool r)]
theorem f_sl05Ok_step4 (x0 : Int) (x1 : (List Int)) (r : List A) (h : (cond (decide (x0 < ((List.length x1 : Nat) : Int))) (cond (inB x0 (List.length x1)) (cond (!(s_sl05Width (IntKind.wrap .i64 (List.getD x1 (Int.toNat x0) 0)))) (some [.v (.bool false)]) (f_sl05Ok_L r 4 (f_sl05Ok_s4 (IntKind.wrap .i64 (x0 + 1)) x1))) none) (some [.v (.bool true)])) = some r) : f_sl05Ok_L r 4 (f_sl05Ok_s4 x0 x1) = some r :=
  step_of' h (by kernel_rfl)
noncomputable def f_sl05Ok_n4 (x0 : Int) (x1 : (List Int)) : Option ((Int × (List Int)) ⊕ Bool) := (cond (decide (x0 < ((List.length x1 : Nat) : Int))) (cond (inB x0 (List.length x1)) (cond (!(s_sl05Width (IntKind.wrap .i64 (List.getD x1 (Int.toNat x0) 0)))) (some (Sum.inr false)) (some (Sum.inl ((IntKind.wrap .i64 (x0 + 1)), x1)))) none) (some (Sum.inr true)))
noncomputable def f_sl05Ok_run4 (x : (Int × (List Int))) : Option Bool := iter (fun x => f_sl05Ok_n4 x.1 x.2) FU x
noncomputable def f_sl05Ok_G4 (r : List A) (x : (Int × (List Int))) : Prop := f_sl05Ok_L r 4 (f_sl05Ok_s4 x.1 x.2) = some r
noncomputable def f_sl05Ok_S4 (r : List A) : Bool → Prop := fun v => r = l_sl05Ok v
theorem f_sl05Ok_go4 (r : List A) : ∀ x, sem (f_sl05Ok_S4 r) (f_sl05Ok_run4 x) → f_sl05Ok_G4 r x :=
  fun x => iter_sound (step := fun x => f_sl05Ok_n4 x.1 x.2) (fun x h => by
    unfold f_sl05Ok_n4 at h
    exact f_sl05Ok_step4 x.1 x.2 r ((sem_cond h (fun h => (sem_cond h (fun h => (sem_cond h (fun h => sem_got h fun q => some_eq q) (fun h => sem_got h fun q => q))) (fun h => sem_none h))) (fun h => sem_got h fun q => some_eq q)))) FU x
noncomputable def s_sl05Ok (a0 : (List Int)) : Option Bool := (cond (!(s_sl00In ((List.length a0 : Nat) : Int) 1 60)) (some false) (f_sl05Ok_run4 (0, a0)))
theorem f_sl05Ok_top (a0 : (List Int)) (r : List A) : ev f_sl05Ok_X (lpc (cnOf f_sl05Ok_LV) (f_sl05Ok_L r)) f_sl05Ok_c (K0 TT f_sl05Ok_rv) (enter [.lst (.one (.i .i16)) a0]) = (cond (!(s_sl00In ((List.length a0 : Nat) : Int) 1 60)) (some [.v (.bool false)]) (f_sl05Ok_L r 4 (f_sl05Ok_s4 0 a0))) := by kernel_rfl
theorem s_sl05Ok_ok (a0 : (List Int)) (v : Bool) (h : s_sl05Ok a0 = some v) : (cond (!(s_sl00In ((List.length a0 : Nat) : Int) 1 60)) (some [.v (.bool false)]) (f_sl05Ok_L (l_sl05Ok v) 4 (f_sl05Ok_s4 0 a0))) = some (l_sl05Ok v) := by
  unfold s_sl05Ok at h
  have go : ∀ r, sem (fun v => r = l_sl05Ok v) ((cond (!(s_sl00In ((List.length a0 : Nat) : Int) 1 60)) (some false) (f_sl05Ok_run4 (0, a0)))) → (cond (!(s_sl00In ((List.length a0 : Nat) : Int) 1 60)) (some [.v (.bool false)]) (f_sl05Ok_L r 4 (f_sl05Ok_s4 0 a0))) = some r := fun r h => (sem_cond h (fun h => sem_got h fun q => some_eq q) (fun h => f_sl05Ok_go4 r _ h))
  exact go (l_sl05Ok v) ⟨v, h, rfl⟩
noncomputable def c_sl05Ok : List A → ACall
  | [.lst (.one (.i .i16)) a0] => ⟨Bool, s_sl05Ok a0, fun r => .one (.v (.bool r))⟩
  | _ => ACall.fail
theorem f_sl05Ok_sound : Sound Tryd.prog 41 c_sl05Ok := by
  refine sound_good f_sl05Ok_ctx f_sl05Ok_LV 1 Tryd.func41 (c := f_sl05Ok_c) (by kernel_rfl) (rv := f_sl05Ok_rv) (by kernel_rfl) (by kernel_rfl) (by kernel_rfl) (by kernel_rfl) fun rs => ?_
  unfold c_sl05Ok
  split
  · rename_i a0; intro v h; exact ⟨rfl, l_sl05Ok v, rfl, (f_sl05Ok_top a0 _).trans (s_sl05Ok_ok a0 v h)⟩
  · intro v h; cases h

/-! ### function 50: loop.example/g01322/spec.l05Brick -/
noncomputable def f_sl05Brick_c : Code := match Tryd.f50.body with | some c => c | none => .skip
noncomputable def f_sl05Brick_X : Ctx := ⟨TT, phiOf [(40, c_sl05Width), (41, c_sl05Ok)], noPsi, noXi⟩
def f_sl05Brick_LV : List (Nat × Keep) := [(5, ([0, 1, 2, 10, 11], [], [])), (14, ([10, 13, 14], [], []))]
def f_sl05Brick_rv : List ResultVar := [.tmp 8, .tmp 9]
noncomputable def f_sl05Brick_L (r : List A) : Nat → AS → Option (List A) := L f_sl05Brick_X (cnOf f_sl05Brick_LV) f_sl05Brick_c (K0 TT f_sl05Brick_rv) r
theorem f_sl05Brick_ctx : CtxOK Tryd.prog f_sl05Brick_X := ctx_of tab mix ⟨⟨Tryd.call40, f_sl05Width_sound⟩, ⟨Tryd.call41, f_sl05Ok_sound⟩, trivial⟩
noncomputable def f_sl05Brick_s5 (x0 : Int) (x1 : Int) (x2 : Int) (x3 : Int) (x4 : (List Int)) : AS := ⟨[(0, .a (.v (.int .i64 x0))), (1, .a (.v (.int .i64 x1))), (2, .a (.v (.int .i64 x2))), (10, .a (.sl 0)), (11, .a (.v (.int .i64 x3)))], [(0, some ⟨true, .arr (.one (.i .i64)) x4⟩)], 1⟩
noncomputable def f_sl05Brick_s14 (x0 : Int) (x1 : (List Int)) (x2 : (List Int)) : AS := ⟨[(10, .a (.sl 0)), (13, .a (.sl 1)), (14, .a (.v (.int .i64 x0)))], [(0, some ⟨true, .arr (.one (.i .i64)) x1⟩), (1, some ⟨true, .arr (.one (.i .i16)) x2⟩)], 2⟩
noncomputable def l_sl05Brick (r : ((List Int) × Bool)) : List A := [.lst (.one (.i .i16)) r.1, .v (.bool r.2)]
theorem f_sl05Brick_step14 (x0 : Int) (x1 : (List Int)) (x2 : (List Int)) (r : List A) (h : (cond (decide (x0 < ((List.length x1 : Nat) : Int))) (cond (inB x0 (List.length x1)) (cond (!(s_sl05Width (List.getD x1 (Int.toNat x0) 0))) (some [.lst (.one (.i .i16)) [], .v (.bool false)]) (cond (inB x0 (List.length x1)) (cond (fits ((List.length (x2 : List Int) + List.length ([(IntKind.wrap .i16 (List.getD x1 (Int.toNat x0) 0))] : List Int)) * 2)) (f_sl05Brick_L r 14 (f_sl05Brick_s14 (IntKind.wrap .i64 (x0 + 1)) x1 (x2 ++ [(IntKind.wrap .i16 (List.getD x1 (Int.toNat x0) 0))]))) none) none)) none) (Option.bind (s_sl05Ok x2) fun r1 => (some [.lst (.one (.i .i16)) x2, .v (.bool r1)]))) = some r) : f_sl05Brick_L r 14 (f_sl05Brick_s14 x0 x1 x2) = some r :=
  step_of' h (by kernel_rfl)
noncomputable def f_sl05Brick_n14 (x0 : Int) (x1 : (List Int)) (x2 : (List Int)) : Option ((Int × (List Int) × (List Int)) ⊕ ((List Int) × Bool)) := (cond (decide (x0 < ((List.length x1 : Nat) : Int))) (cond (inB x0 (List.length x1)) (cond (!(s_sl05Width (List.getD x1 (Int.toNat x0) 0))) (some (Sum.inr ([], false))) (cond (inB x0 (List.length x1)) (cond (fits ((List.length (x2 : List Int) + List.length ([(IntKind.wrap .i16 (List.getD x1 (Int.toNat x0) 0))] : List Int)) * 2)) (some (Sum.inl ((IntKind.wrap .i64 (x0 + 1)), x1, (x2 ++ [(IntKind.wrap .i16 (List.getD x1 (Int.toNat x0) 0))])))) none) none)) none) (Option.bind (s_sl05Ok x2) fun r1 => (some (Sum.inr (x2, r1)))))
noncomputable def f_sl05Brick_run14 (x : (Int × (List Int) × (List Int))) : Option ((List Int) × Bool) := iter (fun x => f_sl05Brick_n14 x.1 x.2.1 x.2.2) FU x
noncomputable def f_sl05Brick_G14 (r : List A) (x : (Int × (List Int) × (List Int))) : Prop := f_sl05Brick_L r 14 (f_sl05Brick_s14 x.1 x.2.1 x.2.2) = some r
theorem f_sl05Brick_step5 (x0 : Int) (x1 : Int) (x2 : Int) (x3 : Int) (x4 : (List Int)) (r : List A) (h : (cond (decide ((IntKind.wrap .i64 ((IntKind.wrap .i64 (x3 + x1)) + x2)) ≤ x0)) (cond (decide (((List.length x4 : Nat) : Int) ≤ 60)) (cond (fits ((List.length (x4 : List Int) + List.length ([x2] : List Int)) * 8)) (f_sl05Brick_L r 5 (f_sl05Brick_s5 x0 x1 x2 (IntKind.wrap .i64 (x3 + (IntKind.wrap .i64 (x1 + x2)))) (x4 ++ [x2]))) none) (cond (decide ((IntKind.wrap .i64 (x0 - x3)) > x1)) (cond (fits ((List.length (x4 : List Int) + List.length ([(IntKind.wrap .i64 ((IntKind.wrap .i64 (x0 - x3)) - x1))] : List Int)) * 8)) (f_sl05Brick_L r 14 (f_sl05Brick_s14 0 (x4 ++ [(IntKind.wrap .i64 ((IntKind.wrap .i64 (x0 - x3)) - x1))]) [])) none) (cond (inB (IntKind.wrap .i64 (((List.length x4 : Nat) : Int) - 1)) (List.length x4)) (cond (inB (IntKind.wrap .i64 (((List.length x4 : Nat) : Int) - 1)) (List.length x4)) (f_sl05Brick_L r 14 (f_sl05Brick_s14 0 (List.set x4 (Int.toNat (IntKind.wrap .i64 (((List.length x4 : Nat) : Int) - 1))) (IntKind.wrap .i64 ((List.getD x4 (Int.toNat (IntKind.wrap .i64 (((List.length x4 : Nat) : Int) - 1))) 0) + (IntKind.wrap .i64 (x0 - x3))))) [])) none) none))) (cond (decide ((IntKind.wrap .i64 (x0 - x3)) > x1)) (cond (fits ((List.length (x4 : List Int) + List.length ([(IntKind.wrap .i64 ((IntKind.wrap .i64 (x0 - x3)) - x1))] : List Int)) * 8)) (f_sl05Brick_L r 14 (f_sl05Brick_s14 0 (x4 ++ [(IntKind.wrap .i64 ((IntKind.wrap .i64 (x0 - x3)) - x1))]) [])) none) (cond (inB (IntKind.wrap .i64 (((List.length x4 : Nat) : Int) - 1)) (List.length x4)) (cond (inB (IntKind.wrap .i64 (((List.length x4 : Nat) : Int) - 1)) (List.length x4)) (f_sl05Brick_L r 14 (f_sl05Brick_s14 0 (List.set x4 (Int.toNat (IntKind.wrap .i64 (((List.length x4 : Nat) : Int) - 1))) (IntKind.wrap .i64 ((List.getD x4 (Int.toNat (IntKind.wrap .i64 (((List.length x4 : Nat) : Int) - 1))) 0) + (IntKind.wrap .i64 (x0 - x3))))) [])) none) none))) = some r) : f_sl05Brick_L r 5 (f_sl05Brick_s5 x0 x1 x2 x3 x4) = some r :=
  step_of' h (by kernel_rfl)
noncomputable def f_sl05Brick_n5 (x0 : Int) (x1 : Int) (x2 : Int) (x3 : Int) (x4 : (List Int)) : Option ((Int × Int × Int × Int × (List Int)) ⊕ ((List Int) × Bool)) := (cond (decide ((IntKind.wrap .i64 ((IntKind.wrap .i64 (x3 + x1)) + x2)) ≤ x0)) (cond (decide (((List.length x4 : Nat) : Int) ≤ 60)) (cond (fits ((List.length (x4 : List Int) + List.length ([x2] : List Int)) * 8)) (some (Sum.inl (x0, x1, x2, (IntKind.wrap .i64 (x3 + (IntKind.wrap .i64 (x1 + x2)))), (x4 ++ [x2])))) none) (cond (decide ((IntKind.wrap .i64 (x0 - x3)) > x1)) (cond (fits ((List.length (x4 : List Int) + List.length ([(IntKind.wrap .i64 ((IntKind.wrap .i64 (x0 - x3)) - x1))] : List Int)) * 8)) (Option.map (fun x => (Sum.inr x)) (f_sl05Brick_run14 (0, (x4 ++ [(IntKind.wrap .i64 ((IntKind.wrap .i64 (x0 - x3)) - x1))]), []))) none) (cond (inB (IntKind.wrap .i64 (((List.length x4 : Nat) : Int) - 1)) (List.length x4)) (cond (inB (IntKind.wrap .i64 (((List.length x4 : Nat) : Int) - 1)) (List.length x4)) (Option.map (fun x => (Sum.inr x)) (f_sl05Brick_run14 (0, (List.set x4 (Int.toNat (IntKind.wrap .i64 (((List.length x4 : Nat) : Int) - 1))) (IntKind.wrap .i64 ((List.getD x4 (Int.toNat (IntKind.wrap .i64 (((List.length x4 : Nat) : Int) - 1))) 0) + (IntKind.wrap .i64 (x0 - x3))))), []))) none) none))) (cond (decide ((IntKind.wrap .i64 (x0 - x3)) > x1)) (cond (fits ((List.length (x4 : List Int) + List.length ([(IntKind.wrap .i64 ((IntKind.wrap .i64 (x0 - x3)) - x1))] : List Int)) * 8)) (Option.map (fun x => (Sum.inr x)) (f_sl05Brick_run14 (0, (x4 ++ [(IntKind.wrap .i64 ((IntKind.wrap .i64 (x0 - x3)) - x1))]), []))) none) (cond (inB (IntKind.wrap .i64 (((List.length x4 : Nat) : Int) - 1)) (List.length x4)) (cond (inB (IntKind.wrap .i64 (((List.length x4 : Nat) : Int) - 1)) (List.length x4)) (Option.map (fun x => (Sum.inr x)) (f_sl05Brick_run14 (0, (List.set x4 (Int.toNat (IntKind.wrap .i64 (((List.length x4 : Nat) : Int) - 1))) (IntKind.wrap .i64 ((List.getD x4 (Int.toNat (IntKind.wrap .i64 (((List.length x4 : Nat) : Int) - 1))) 0) + (IntKind.wrap .i64 (x0 - x3))))), []))) none) none)))
noncomputable def f_sl05Brick_run5 (x : (Int × Int × Int × Int × (List Int))) : Option ((List Int) × Bool) := iter (fun x => f_sl05Brick_n5 x.1 x.2.1 x.2.2.1 x.2.2.2.1 x.2.2.2.2) FU x
noncomputable def f_sl05Brick_G5 (r : List A) (x : (Int × Int × Int × Int × (List Int))) : Prop := f_sl05Brick_L r 5 (f_sl05Brick_s5 x.1 x.2.1 x.2.2.1 x.2.2.2.1 x.2.2.2.2) = some r
noncomputable def f_sl05Brick_S14 (r : List A) : ((List Int) × Bool) → Prop := fun v => r = l_sl05Brick v
noncomputable def f_sl05Brick_S5 (r : List A) : ((List Int) × Bool) → Prop := fun v => r = l_sl05Brick v
theorem f_sl05Brick_go14 (r : List A) : ∀ x, sem (f_sl05Brick_S14 r) (f_sl05Brick_run14 x) → f_sl05Brick_G14 r x :=
  fun x => iter_sound (step := fun x => f_sl05Brick_n14 x.1 x.2.1 x.2.2) (fun x h => by
    unfold f_sl05Brick_n14 at h
    exact f_sl05Brick_step14 x.1 x.2.1 x.2.2 r ((sem_cond h (fun h => (sem_cond h (fun h => (sem_cond h (fun h => sem_got h fun q => some_eq q) (fun h => (sem_cond h (fun h => (sem_cond h (fun h => sem_got h fun q => q) (fun h => sem_none h))) (fun h => sem_none h))))) (fun h => sem_none h))) (fun h => (sem_bind h fun r1 h => sem_got h fun q => some_eq q))))) FU x
theorem f_sl05Brick_go5 (r : List A) : ∀ x, sem (f_sl05Brick_S5 r) (f_sl05Brick_run5 x) → f_sl05Brick_G5 r x :=
  fun x => iter_sound (step := fun x => f_sl05Brick_n5 x.1 x.2.1 x.2.2.1 x.2.2.2.1 x.2.2.2.2) (fun x h => by
    unfold f_sl05Brick_n5 at h
    exact f_sl05Brick_step5 x.1 x.2.1 x.2.2.1 x.2.2.2.1 x.2.2.2.2 r ((sem_cond h (fun h => (sem_cond h (fun h => (sem_cond h (fun h => sem_got h fun q => q) (fun h => sem_none h))) (fun h => (sem_cond h (fun h => (sem_cond h (fun h => f_sl05Brick_go14 r _ (sem_mapk h fun _ q => q)) (fun h => sem_none h))) (fun h => (sem_cond h (fun h => (sem_cond h (fun h => f_sl05Brick_go14 r _ (sem_mapk h fun _ q => q)) (fun h => sem_none h))) (fun h => sem_none h))))))) (fun h => (sem_cond h (fun h => (sem_cond h (fun h => f_sl05Brick_go14 r _ (sem_mapk h fun _ q => q)) (fun h => sem_none h))) (fun h => (sem_cond h (fun h => (sem_cond h (fun h => f_sl05Brick_go14 r _ (sem_mapk h fun _ q => q)) (fun h => sem_none h))) (fun h => sem_none h)))))))) FU x
noncomputable def s_sl05Brick (a0 : Int) (a1 : Int) (a2 : Int) (a3 : Int) : Option ((List Int) × Bool) := (cond (decide (a3 ≥ a0)) (cond (inB 0 (List.length [a3])) (f_sl05Brick_run14 (0, (List.set [a3] 0 a0), [])) none) (f_sl05Brick_run5 (a0, a1, a2, a3, [a3])))
theorem f_sl05Brick_top (a0 : Int) (a1 : Int) (a2 : Int) (a3 : Int) (r : List A) : ev f_sl05Brick_X (lpc (cnOf f_sl05Brick_LV) (f_sl05Brick_L r)) f_sl05Brick_c (K0 TT f_sl05Brick_rv) (enter [.v (.int .i64 a0), .v (.int .i64 a1), .v (.int .i64 a2), .v (.int .i64 a3)]) = (cond (decide (a3 ≥ a0)) (cond (inB 0 (List.length [a3])) (f_sl05Brick_L r 14 (f_sl05Brick_s14 0 (List.set [a3] 0 a0) [])) none) (f_sl05Brick_L r 5 (f_sl05Brick_s5 a0 a1 a2 a3 [a3]))) := by kernel_rfl
theorem s_sl05Brick_ok (a0 : Int) (a1 : Int) (a2 : Int) (a3 : Int) (v : ((List Int) × Bool)) (h : s_sl05Brick a0 a1 a2 a3 = some v) : (cond (decide (a3 ≥ a0)) (cond (inB 0 (List.length [a3])) (f_sl05Brick_L (l_sl05Brick v) 14 (f_sl05Brick_s14 0 (List.set [a3] 0 a0) [])) none) (f_sl05Brick_L (l_sl05Brick v) 5 (f_sl05Brick_s5 a0 a1 a2 a3 [a3]))) = some (l_sl05Brick v) := by
  unfold s_sl05Brick at h
  have go : ∀ r, sem (fun v => r = l_sl05Brick v) ((cond (decide (a3 ≥ a0)) (cond (inB 0 (List.length [a3])) (f_sl05Brick_run14 (0, (List.set [a3] 0 a0), [])) none) (f_sl05Brick_run5 (a0, a1, a2, a3, [a3])))) → (cond (decide (a3 ≥ a0)) (cond (inB 0 (List.length [a3])) (f_sl05Brick_L r 14 (f_sl05Brick_s14 0 (List.set [a3] 0 a0) [])) none) (f_sl05Brick_L r 5 (f_sl05Brick_s5 a0 a1 a2 a3 [a3]))) = some r := fun r h => (sem_cond h (fun h => (sem_cond h (fun h => f_sl05Brick_go14 r _ h) (fun h => sem_none h))) (fun h => f_sl05Brick_go5 r _ h))
  exact go (l_sl05Brick v) ⟨v, h, rfl⟩
noncomputable def c_sl05Brick : List A → ACall
  | [.v (.int .i64 a0), .v (.int .i64 a1), .v (.int .i64 a2), .v (.int .i64 a3)] => ⟨((List Int) × Bool), s_sl05Brick a0 a1 a2 a3, fun r => .tup [.lst (.one (.i .i16)) r.1, .v (.bool r.2)]⟩
  | _ => ACall.fail
theorem f_sl05Brick_sound : Sound Tryd.prog 50 c_sl05Brick := by
  refine sound_good f_sl05Brick_ctx f_sl05Brick_LV 4 Tryd.func50 (c := f_sl05Brick_c) (by kernel_rfl) (rv := f_sl05Brick_rv) (by kernel_rfl) (by kernel_rfl) (by kernel_rfl) (by kernel_rfl) fun rs => ?_
  unfold c_sl05Brick
  split
  · rename_i a0 a1 a2 a3; intro v h; exact ⟨rfl, l_sl05Brick v, rfl, (f_sl05Brick_top a0 a1 a2 a3 _).trans (s_sl05Brick_ok a0 a1 a2 a3 v h)⟩
  · intro v h; cases h

/-! ### function 14: loop.example/g01322/spec.BrickRow -/
noncomputable def f_sBrickRow_c : Code := match Tryd.f14.body with | some c => c | none => .skip
noncomputable def f_sBrickRow_X : Ctx := ⟨TT, phiOf [(40, c_sl05Width), (49, c_sl05Long), (50, c_sl05Brick)], noPsi, noXi⟩
def f_sBrickRow_LV : List (Nat × Keep) := []
def f_sBrickRow_rv : List ResultVar := [.tmp 8, .tmp 9]
noncomputable def f_sBrickRow_L (r : List A) : Nat → AS → Option (List A) := L f_sBrickRow_X (cnOf f_sBrickRow_LV) f_sBrickRow_c (K0 TT f_sBrickRow_rv) r
theorem f_sBrickRow_ctx : CtxOK Tryd.prog f_sBrickRow_X := ctx_of tab mix ⟨⟨Tryd.call40, f_sl05Width_sound⟩, ⟨Tryd.call49, f_sl05Long_sound⟩, ⟨Tryd.call50, f_sl05Brick_sound⟩, trivial⟩
noncomputable def s_sBrickRow (a0 : Int) (a1 : Int) (a2 : Int) (a3 : Int) : Option ((List Int) × Int) := (cond (!(s_sl05Long a0 a1)) (some ([], 2)) (cond (!(s_sl05Width a2)) (some ([], 2)) (cond (!(s_sl05Width a3)) (some ([], 2)) (Option.bind (s_sl05Brick a0 a1 a2 a3) fun r1 => (cond (!r1.2) (some ([], 6)) (some ((r1.1), 0)))))))
theorem f_sBrickRow_top (a0 : Int) (a1 : Int) (a2 : Int) (a3 : Int) (r : List A) : ev f_sBrickRow_X (lpc (cnOf f_sBrickRow_LV) (f_sBrickRow_L r)) f_sBrickRow_c (K0 TT f_sBrickRow_rv) (enter [.v (.int .i64 a0), .v (.int .i64 a1), .v (.int .i64 a2), .v (.int .i64 a3)]) = (cond (!(s_sl05Long a0 a1)) (some [.lst (.one (.i .i16)) [], .v (.int .i64 2)]) (cond (!(s_sl05Width a2)) (some [.lst (.one (.i .i16)) [], .v (.int .i64 2)]) (cond (!(s_sl05Width a3)) (some [.lst (.one (.i .i16)) [], .v (.int .i64 2)]) (Option.bind (s_sl05Brick a0 a1 a2 a3) fun r1 => (cond (!r1.2) (some [.lst (.one (.i .i16)) [], .v (.int .i64 6)]) (some [.lst (.one (.i .i16)) r1.1, .v (.int .i64 0)])))))) := by kernel_rfl
noncomputable def l_sBrickRow (r : ((List Int) × Int)) : List A := [.lst (.one (.i .i16)) r.1, .v (.int .i64 r.2)]
theorem s_sBrickRow_ok (a0 : Int) (a1 : Int) (a2 : Int) (a3 : Int) (v : ((List Int) × Int)) (h : s_sBrickRow a0 a1 a2 a3 = some v) : (cond (!(s_sl05Long a0 a1)) (some [.lst (.one (.i .i16)) [], .v (.int .i64 2)]) (cond (!(s_sl05Width a2)) (some [.lst (.one (.i .i16)) [], .v (.int .i64 2)]) (cond (!(s_sl05Width a3)) (some [.lst (.one (.i .i16)) [], .v (.int .i64 2)]) (Option.bind (s_sl05Brick a0 a1 a2 a3) fun r1 => (cond (!r1.2) (some [.lst (.one (.i .i16)) [], .v (.int .i64 6)]) (some [.lst (.one (.i .i16)) r1.1, .v (.int .i64 0)])))))) = some (l_sBrickRow v) := by
  have e : (cond (!(s_sl05Long a0 a1)) (some [.lst (.one (.i .i16)) [], .v (.int .i64 2)]) (cond (!(s_sl05Width a2)) (some [.lst (.one (.i .i16)) [], .v (.int .i64 2)]) (cond (!(s_sl05Width a3)) (some [.lst (.one (.i .i16)) [], .v (.int .i64 2)]) (Option.bind (s_sl05Brick a0 a1 a2 a3) fun r1 => (cond (!r1.2) (some [.lst (.one (.i .i16)) [], .v (.int .i64 6)]) (some [.lst (.one (.i .i16)) r1.1, .v (.int .i64 0)])))))) = Option.map l_sBrickRow (s_sBrickRow a0 a1 a2 a3) := by
    unfold s_sBrickRow
    exact (cond_app (Option.map l_sBrickRow) rfl (cond_app (Option.map l_sBrickRow) rfl (cond_app (Option.map l_sBrickRow) rfl (bind_app fun _ => (cond_app (Option.map l_sBrickRow) rfl rfl)))))
  rw [e, h]; rfl
noncomputable def c_sBrickRow : List A → ACall
  | [.v (.int .i64 a0), .v (.int .i64 a1), .v (.int .i64 a2), .v (.int .i64 a3)] => ⟨((List Int) × Int), s_sBrickRow a0 a1 a2 a3, fun r => .tup [.lst (.one (.i .i16)) r.1, .v (.int .i64 r.2)]⟩
  | _ => ACall.fail
theorem f_sBrickRow_sound : Sound Tryd.prog 14 c_sBrickRow := by
  refine sound_good f_sBrickRow_ctx f_sBrickRow_LV 4 Tryd.func14 (c := f_sBrickRow_c) (by kernel_rfl) (rv := f_sBrickRow_rv) (by kernel_rfl) (by kernel_rfl) (by kernel_rfl) (by kernel_rfl) fun rs => ?_
  unfold c_sBrickRow
  split
  · rename_i a0 a1 a2 a3; intro v h; exact ⟨rfl, l_sBrickRow v, rfl, (f_sBrickRow_top a0 a1 a2 a3 _).trans (s_sBrickRow_ok a0 a1 a2 a3 v h)⟩
  · intro v h; cases h

/-! ### function 85: loop.example/g01322/impl.ValidRow$1 -/
noncomputable def f_iValidRow_1_c : Code := match Tryd.f85.body with | some c => c | none => .skip
noncomputable def f_iValidRow_1_X : Ctx := ⟨TT, phiOf [(47, c_iisWidth)], noPsi, noXi⟩
def f_iValidRow_1_LV : List (Nat × Keep) := []
def f_iValidRow_1_rv : List ResultVar := [.tmp 2]
noncomputable def f_iValidRow_1_L (r : List A) : Nat → AS → Option (List A) := L f_iValidRow_1_X (cnOf f_iValidRow_1_LV) f_iValidRow_1_c (K0 TT f_iValidRow_1_rv) r
theorem f_iValidRow_1_ctx : CtxOK Tryd.prog f_iValidRow_1_X := ctx_of tab mix ⟨⟨Tryd.call47, f_iisWidth_sound⟩, trivial⟩
noncomputable def s_iValidRow_1 (a0 : Int) : Option Bool := (Option.bind (s_iisWidth [(IntKind.wrap .i64 a0)]) fun r1 => (some (!r1)))
theorem f_iValidRow_1_top (a0 : Int) (r : List A) : ev f_iValidRow_1_X (lpc (cnOf f_iValidRow_1_LV) (f_iValidRow_1_L r)) f_iValidRow_1_c (K0 TT f_iValidRow_1_rv) (enter [.v (.int .i16 a0)]) = (Option.bind (s_iisWidth [(IntKind.wrap .i64 a0)]) fun r1 => (some [.v (.bool (!r1))])) := by kernel_rfl
noncomputable def l_iValidRow_1 (r : Bool) : List A := [.v (.bool r)]
theorem s_iValidRow_1_ok (a0 : Int) (v : Bool) (h : s_iValidRow_1 a0 = some v) : (Option.bind (s_iisWidth [(IntKind.wrap .i64 a0)]) fun r1 => (some [.v (.bool (!r1))])) = some (l_iValidRow_1 v) := by
  have e : (Option.bind (s_iisWidth [(IntKind.wrap .i64 a0)]) fun r1 => (some [.v (.bool (!r1))])) = Option.map l_iValidRow_1 (s_iValidRow_1 a0) := by
    unfold s_iValidRow_1
    exact (bind_app fun _ => rfl)
  rw [e, h]; rfl
noncomputable def c_iValidRow_1 : List A → ACall
  | [.v (.int .i16 a0)] => ⟨Bool, s_iValidRow_1 a0, fun r => .one (.v (.bool r))⟩
  | _ => ACall.fail
theorem f_iValidRow_1_sound : Sound Tryd.prog 85 c_iValidRow_1 := by
  refine sound_good f_iValidRow_1_ctx f_iValidRow_1_LV 1 Tryd.func85 (c := f_iValidRow_1_c) (by kernel_rfl) (rv := f_iValidRow_1_rv) (by kernel_rfl) (by kernel_rfl) (by kernel_rfl) (by kernel_rfl) fun rs => ?_
  unfold c_iValidRow_1
  split
  · rename_i a0; intro v h; exact ⟨rfl, l_iValidRow_1 v, rfl, (f_iValidRow_1_top a0 _).trans (s_iValidRow_1_ok a0 v h)⟩
  · intro v h; cases h

/-! ### function 109: slices.IndexFunc[loop.example/g01322/impl.Row,int16] -/
noncomputable def f_gIndexFunc_int16_b_c : Code := match Tryd.f109.body with | some c => c | none => .skip
noncomputable def f_gIndexFunc_int16_b_X : Ctx := ⟨TT, phiOf [(85, c_iValidRow_1)], noPsi, noXi⟩
def f_gIndexFunc_int16_b_LV : List (Nat × Keep) := [(2, ([0, 1, 7, 8], [], []))]
def f_gIndexFunc_int16_b_rv : List ResultVar := [.tmp 4]
noncomputable def f_gIndexFunc_int16_b_L (r : List A) : Nat → AS → Option (List A) := L f_gIndexFunc_int16_b_X (cnOf f_gIndexFunc_int16_b_LV) f_gIndexFunc_int16_b_c (K0 TT f_gIndexFunc_int16_b_rv) r
theorem f_gIndexFunc_int16_b_ctx : CtxOK Tryd.prog f_gIndexFunc_int16_b_X := ctx_of tab mix ⟨⟨Tryd.call85, f_iValidRow_1_sound⟩, trivial⟩
noncomputable def f_gIndexFunc_int16_b_s2 (x0 : Int) (x1 : Int) (x2 : (List Int)) : AS := ⟨[(0, .a (.sl 0)), (1, .a (.clo 85 [])), (7, .a (.v (.int .i64 x0))), (8, .a (.v (.int .i64 x1)))], [(0, some ⟨false, .arr (.one (.i .i16)) x2⟩)], 1⟩
noncomputable def l_gIndexFunc_int16_b (r : Int) : List A := [.v (.int .i64 r)]
theorem f_gIndexFunc_int16_b_step2 (x0 : Int) (x1 : Int) (x2 : (List Int)) (r : List A) (h : (cond (decide (x1 < x0)) (cond (inB x1 (List.length x2)) (Option.bind (s_iValidRow_1 (List.getD x2 (Int.toNat x1) 0)) fun r1 => (cond r1 (some [.v (.int .i64 x1)]) (f_gIndexFunc_int16_b_L r 2 (f_gIndexFunc_int16_b_s2 x0 (IntKind.wrap .i64 (x1 + 1)) x2)))) none) (some [.v (.int .i64 (-1))])) = some r) : f_gIndexFunc_int16_b_L r 2 (f_gIndexFunc_int16_b_s2 x0 x1 x2) = some r :=
  step_of' h (by kernel_rfl)
noncomputable def f_gIndexFunc_int16_b_n2 (x0 : Int) (x1 : Int) (x2 : (List Int)) : Option ((Int × Int × (List Int)) ⊕ Int) := (cond (decide (x1 < x0)) (cond (inB x1 (List.length x2)) (Option.bind (s_iValidRow_1 (List.getD x2 (Int.toNat x1) 0)) fun r1 => (cond r1 (some (Sum.inr x1)) (some (Sum.inl (x0, (IntKind.wrap .i64 (x1 + 1)), x2))))) none) (some (Sum.inr (-1))))
noncomputable def f_gIndexFunc_int16_b_run2 (x : (Int × Int × (List Int))) : Option Int := iter (fun x => f_gIndexFunc_int16_b_n2 x.1 x.2.1 x.2.2) FU x
noncomputable def f_gIndexFunc_int16_b_G2 (r : List A) (x : (Int × Int × (List Int))) : Prop := f_gIndexFunc_int16_b_L r 2 (f_gIndexFunc_int16_b_s2 x.1 x.2.1 x.2.2) = some r
noncomputable def f_gIndexFunc_int16_b_S2 (r : List A) : Int → Prop := fun v => r = l_gIndexFunc_int16_b v
theorem f_gIndexFunc_int16_b_go2 (r : List A) : ∀ x, sem (f_gIndexFunc_int16_b_S2 r) (f_gIndexFunc_int16_b_run2 x) → f_gIndexFunc_int16_b_G2 r x :=
  fun x => iter_sound (step := fun x => f_gIndexFunc_int16_b_n2 x.1 x.2.1 x.2.2) (fun x h => by
    unfold f_gIndexFunc_int16_b_n2 at h
    exact f_gIndexFunc_int16_b_step2 x.1 x.2.1 x.2.2 r ((sem_cond h (fun h => (sem_cond h (fun h => (sem_bind h fun r1 h => (sem_cond h (fun h => sem_got h fun q => some_eq q) (fun h => sem_got h fun q => q)))) (fun h => sem_none h))) (fun h => sem_got h fun q => some_eq q)))) FU x
noncomputable def s_gIndexFunc_int16_b (a0 : (List Int)) : Option Int := (f_gIndexFunc_int16_b_run2 (((List.length a0 : Nat) : Int), 0, a0))
theorem f_gIndexFunc_int16_b_top (a0 : (List Int)) (r : List A) : ev f_gIndexFunc_int16_b_X (lpc (cnOf f_gIndexFunc_int16_b_LV) (f_gIndexFunc_int16_b_L r)) f_gIndexFunc_int16_b_c (K0 TT f_gIndexFunc_int16_b_rv) (enter [.lst (.one (.i .i16)) a0, .clo 85 []]) = (f_gIndexFunc_int16_b_L r 2 (f_gIndexFunc_int16_b_s2 ((List.length a0 : Nat) : Int) 0 a0)) := by kernel_rfl
theorem s_gIndexFunc_int16_b_ok (a0 : (List Int)) (v : Int) (h : s_gIndexFunc_int16_b a0 = some v) : (f_gIndexFunc_int16_b_L (l_gIndexFunc_int16_b v) 2 (f_gIndexFunc_int16_b_s2 ((List.length a0 : Nat) : Int) 0 a0)) = some (l_gIndexFunc_int16_b v) := by
  unfold s_gIndexFunc_int16_b at h
  have go : ∀ r, sem (fun v => r = l_gIndexFunc_int16_b v) ((f_gIndexFunc_int16_b_run2 (((List.length a0 : Nat) : Int), 0, a0))) → (f_gIndexFunc_int16_b_L r 2 (f_gIndexFunc_int16_b_s2 ((List.length a0 : Nat) : Int) 0 a0)) = some r := fun r h => f_gIndexFunc_int16_b_go2 r _ h
  exact go (l_gIndexFunc_int16_b v) ⟨v, h, rfl⟩
noncomputable def c_gIndexFunc_int16_b : List A → ACall
  | [.lst (.one (.i .i16)) a0, .clo 85 []] => ⟨Int, s_gIndexFunc_int16_b a0, fun r => .one (.v (.int .i64 r))⟩
  | _ => ACall.fail
theorem f_gIndexFunc_int16_b_sound : Sound Tryd.prog 109 c_gIndexFunc_int16_b := by
  refine sound_good f_gIndexFunc_int16_b_ctx f_gIndexFunc_int16_b_LV 2 Tryd.func109 (c := f_gIndexFunc_int16_b_c) (by kernel_rfl) (rv := f_gIndexFunc_int16_b_rv) (by kernel_rfl) (by kernel_rfl) (by kernel_rfl) (by kernel_rfl) fun rs => ?_
  unfold c_gIndexFunc_int16_b
  split
  · rename_i a0; intro v h; exact ⟨rfl, l_gIndexFunc_int16_b v, rfl, (f_gIndexFunc_int16_b_top a0 _).trans (s_gIndexFunc_int16_b_ok a0 v h)⟩
  · intro v h; cases h
def m_gIndexFunc_int16_b : List A → Bool
  | [_, .clo 85 _] => true
  | _ => false

/-! ### function 84: slices.ContainsFunc[loop.example/g01322/impl.Row,int16] -/
noncomputable def f_gContainsFunc_int16_b_c : Code := match Tryd.f84.body with | some c => c | none => .skip
noncomputable def f_gContainsFunc_int16_b_X : Ctx := ⟨TT, phiOf [(109, c_gIndexFunc_int16_b)], noPsi, noXi⟩
def f_gContainsFunc_int16_b_LV : List (Nat × Keep) := []
def f_gContainsFunc_int16_b_rv : List ResultVar := [.tmp 4]
noncomputable def f_gContainsFunc_int16_b_L (r : List A) : Nat → AS → Option (List A) := L f_gContainsFunc_int16_b_X (cnOf f_gContainsFunc_int16_b_LV) f_gContainsFunc_int16_b_c (K0 TT f_gContainsFunc_int16_b_rv) r
theorem f_gContainsFunc_int16_b_ctx : CtxOK Tryd.prog f_gContainsFunc_int16_b_X := ctx_of tab mix ⟨⟨Tryd.call109, f_gIndexFunc_int16_b_sound⟩, trivial⟩
noncomputable def s_gContainsFunc_int16_b (a0 : (List Int)) : Option Bool := (Option.bind (s_gIndexFunc_int16_b a0) fun r1 => (some (decide (r1 ≥ 0))))
theorem f_gContainsFunc_int16_b_top (a0 : (List Int)) (r : List A) : ev f_gContainsFunc_int16_b_X (lpc (cnOf f_gContainsFunc_int16_b_LV) (f_gContainsFunc_int16_b_L r)) f_gContainsFunc_int16_b_c (K0 TT f_gContainsFunc_int16_b_rv) (enter [.lst (.one (.i .i16)) a0, .clo 85 []]) = (Option.bind (s_gIndexFunc_int16_b a0) fun r1 => (some [.v (.bool (decide (r1 ≥ 0)))])) := by kernel_rfl
noncomputable def l_gContainsFunc_int16_b (r : Bool) : List A := [.v (.bool r)]
theorem s_gContainsFunc_int16_b_ok (a0 : (List Int)) (v : Bool) (h : s_gContainsFunc_int16_b a0 = some v) : (Option.bind (s_gIndexFunc_int16_b a0) fun r1 => (some [.v (.bool (decide (r1 ≥ 0)))])) = some (l_gContainsFunc_int16_b v) := by
  have e : (Option.bind (s_gIndexFunc_int16_b a0) fun r1 => (some [.v (.bool (decide (r1 ≥ 0)))])) = Option.map l_gContainsFunc_int16_b (s_gContainsFunc_int16_b a0) := by
    unfold s_gContainsFunc_int16_b
    exact (bind_app fun _ => rfl)
  rw [e, h]; rfl
noncomputable def c_gContainsFunc_int16_b : List A → ACall
  | [.lst (.one (.i .i16)) a0, .clo 85 []] => ⟨Bool, s_gContainsFunc_int16_b a0, fun r => .one (.v (.bool r))⟩
  | _ => ACall.fail
theorem f_gContainsFunc_int16_b_sound : Sound Tryd.prog 84 c_gContainsFunc_int16_b := by
  refine sound_good f_gContainsFunc_int16_b_ctx f_gContainsFunc_int16_b_LV 2 Tryd.func84 (c := f_gContainsFunc_int16_b_c) (by kernel_rfl) (rv := f_gContainsFunc_int16_b_rv) (by kernel_rfl) (by kernel_rfl) (by kernel_rfl) (by kernel_rfl) fun rs => ?_
  unfold c_gContainsFunc_int16_b
  split
  · rename_i a0; intro v h; exact ⟨rfl, l_gContainsFunc_int16_b v, rfl, (f_gContainsFunc_int16_b_top a0 _).trans (s_gContainsFunc_int16_b_ok a0 v h)⟩
  · intro v h; cases h
def m_gContainsFunc_int16_b : List A → Bool
  | [_, .clo 85 _] => true
  | _ => false

/-! ### function 44: loop.example/g01322/impl.ValidRow -/
noncomputable def f_iValidRow_c : Code := match Tryd.f44.body with | some c => c | none => .skip
noncomputable def f_iValidRow_X : Ctx := ⟨TT, phiOf [(84, c_gContainsFunc_int16_b), (54, c_iwithin)], noPsi, noXi⟩
def f_iValidRow_LV : List (Nat × Keep) := []
def f_iValidRow_rv : List ResultVar := [.tmp 2]
noncomputable def f_iValidRow_L (r : List A) : Nat → AS → Option (List A) := L f_iValidRow_X (cnOf f_iValidRow_LV) f_iValidRow_c (K0 TT f_iValidRow_rv) r
theorem f_iValidRow_ctx : CtxOK Tryd.prog f_iValidRow_X := ctx_of tab mix ⟨⟨Tryd.call84, f_gContainsFunc_int16_b_sound⟩, ⟨Tryd.call54, f_iwithin_sound⟩, trivial⟩
noncomputable def s_iValidRow (a0 : (List Int)) : Option Bool := (cond (s_iwithin ((List.length a0 : Nat) : Int) 1 60) (Option.bind (s_gContainsFunc_int16_b a0) fun r1 => (some (!r1))) (some false))
theorem f_iValidRow_top (a0 : (List Int)) (r : List A) : ev f_iValidRow_X (lpc (cnOf f_iValidRow_LV) (f_iValidRow_L r)) f_iValidRow_c (K0 TT f_iValidRow_rv) (enter [.lst (.one (.i .i16)) a0]) = (cond (s_iwithin ((List.length a0 : Nat) : Int) 1 60) (Option.bind (s_gContainsFunc_int16_b a0) fun r1 => (some [.v (.bool (!r1))])) (some [.v (.bool false)])) := by kernel_rfl
noncomputable def l_iValidRow (r : Bool) : List A := [.v (.bool r)]
theorem s_iValidRow_ok (a0 : (List Int)) (v : Bool) (h : s_iValidRow a0 = some v) : (cond (s_iwithin ((List.length a0 : Nat) : Int) 1 60) (Option.bind (s_gContainsFunc_int16_b a0) fun r1 => (some [.v (.bool (!r1))])) (some [.v (.bool false)])) = some (l_iValidRow v) := by
  have e : (cond (s_iwithin ((List.length a0 : Nat) : Int) 1 60) (Option.bind (s_gContainsFunc_int16_b a0) fun r1 => (some [.v (.bool (!r1))])) (some [.v (.bool false)])) = Option.map l_iValidRow (s_iValidRow a0) := by
    unfold s_iValidRow
    exact (cond_app (Option.map l_iValidRow) (bind_app fun _ => rfl) rfl)
  rw [e, h]; rfl
noncomputable def c_iValidRow : List A → ACall
  | [.lst (.one (.i .i16)) a0] => ⟨Bool, s_iValidRow a0, fun r => .one (.v (.bool r))⟩
  | _ => ACall.fail
theorem f_iValidRow_sound : Sound Tryd.prog 44 c_iValidRow := by
  refine sound_good f_iValidRow_ctx f_iValidRow_LV 1 Tryd.func44 (c := f_iValidRow_c) (by kernel_rfl) (rv := f_iValidRow_rv) (by kernel_rfl) (by kernel_rfl) (by kernel_rfl) (by kernel_rfl) fun rs => ?_
  unfold c_iValidRow
  split
  · rename_i a0; intro v h; exact ⟨rfl, l_iValidRow v, rfl, (f_iValidRow_top a0 _).trans (s_iValidRow_ok a0 v h)⟩
  · intro v h; cases h

/-! ### function 52: loop.example/g01322/impl.codeOf -/
noncomputable def f_icodeOf_c : Code := match Tryd.f52.body with | some c => c | none => .skip
noncomputable def f_icodeOf_X : Ctx := ⟨TT, phiOf [], noPsi, noXi⟩
def f_icodeOf_LV : List (Nat × Keep) := []
def f_icodeOf_rv : List ResultVar := [.tmp 4]
noncomputable def f_icodeOf_L (r : List A) : Nat → AS → Option (List A) := L f_icodeOf_X (cnOf f_icodeOf_LV) f_icodeOf_c (K0 TT f_icodeOf_rv) r
theorem f_icodeOf_ctx : CtxOK Tryd.prog f_icodeOf_X := ctx_of tab mix trivial
noncomputable def s_icodeOf (a0 : Bool) (a1 : Bool) : Int := (cond (!a0) 1 (cond (!a1) 2 0))
theorem f_icodeOf_top (a0 : Bool) (a1 : Bool) (r : List A) : ev f_icodeOf_X (lpc (cnOf f_icodeOf_LV) (f_icodeOf_L r)) f_icodeOf_c (K0 TT f_icodeOf_rv) (enter [.v (.bool a0), .v (.bool a1)]) = (cond (!a0) (some [.v (.int .i64 1)]) (cond (!a1) (some [.v (.int .i64 2)]) (some [.v (.int .i64 0)]))) := by kernel_rfl
noncomputable def l_icodeOf (r : Int) : List A := [.v (.int .i64 r)]
theorem s_icodeOf_ok (a0 : Bool) (a1 : Bool) : (cond (!a0) (some [.v (.int .i64 1)]) (cond (!a1) (some [.v (.int .i64 2)]) (some [.v (.int .i64 0)]))) = some (l_icodeOf (s_icodeOf a0 a1)) := by
  unfold s_icodeOf
  exact (cond_app (fun x => some (l_icodeOf x)) rfl (cond_app (fun x => some (l_icodeOf x)) rfl rfl))
noncomputable def c_icodeOf : List A → ACall
  | [.v (.bool a0), .v (.bool a1)] => ⟨Int, some (s_icodeOf a0 a1), fun r => .one (.v (.int .i64 r))⟩
  | _ => ACall.fail
theorem f_icodeOf_sound : Sound Tryd.prog 52 c_icodeOf := by
  refine sound_good f_icodeOf_ctx f_icodeOf_LV 2 Tryd.func52 (c := f_icodeOf_c) (by kernel_rfl) (rv := f_icodeOf_rv) (by kernel_rfl) (by kernel_rfl) (by kernel_rfl) (by kernel_rfl) fun rs => ?_
  unfold c_icodeOf
  split
  · rename_i a0 a1; intro v h; cases h; exact ⟨rfl, l_icodeOf (s_icodeOf a0 a1), rfl, (f_icodeOf_top a0 a1 _).trans (s_icodeOf_ok a0 a1)⟩
  · intro v h; cases h

/-! ### function 53: (loop.example/g01322/impl.Row).length -/
noncomputable def f_iRow_length_c : Code := match Tryd.f53.body with | some c => c | none => .skip
noncomputable def f_iRow_length_X : Ctx := ⟨TT, phiOf [], noPsi, noXi⟩
def f_iRow_length_LV : List (Nat × Keep) := [(3, ([5, 13, 14, 15], [], []))]
def f_iRow_length_rv : List ResultVar := [.tmp 4]
noncomputable def f_iRow_length_L (r : List A) : Nat → AS → Option (List A) := L f_iRow_length_X (cnOf f_iRow_length_LV) f_iRow_length_c (K0 TT f_iRow_length_rv) r
theorem f_iRow_length_ctx : CtxOK Tryd.prog f_iRow_length_X := ctx_of tab mix trivial
noncomputable def f_iRow_length_s3 (x0 : Int) (x1 : Int) (x2 : Int) (x3 : (List Int)) : AS := ⟨[(5, .a (.v (.int .i64 x0))), (13, .a (.sl 0)), (14, .a (.v (.int .i64 x1))), (15, .a (.v (.int .i64 x2)))], [(0, some ⟨false, .arr (.one (.i .i16)) x3⟩)], 1⟩
noncomputable def l_iRow_length (r : Int) : List A := [.v (.int .i64 r)]
theorem f_iRow_length_step3 (x0 : Int) (x1 : Int) (x2 : Int) (x3 : (List Int)) (r : List A) (h : (cond (decide (x2 < x1)) (cond (inB x2 (List.length x3)) (f_iRow_length_L r 3 (f_iRow_length_s3 (IntKind.wrap .i64 (x0 + (IntKind.wrap .i64 (List.getD x3 (Int.toNat x2) 0)))) x1 (IntKind.wrap .i64 (x2 + 1)) x3)) none) (some [.v (.int .i64 x0)])) = some r) : f_iRow_length_L r 3 (f_iRow_length_s3 x0 x1 x2 x3) = some r :=
  step_of' h (by kernel_rfl)
noncomputable def f_iRow_length_n3 (x0 : Int) (x1 : Int) (x2 : Int) (x3 : (List Int)) : Option ((Int × Int × Int × (List Int)) ⊕ Int) := (cond (decide (x2 < x1)) (cond (inB x2 (List.length x3)) (some (Sum.inl ((IntKind.wrap .i64 (x0 + (IntKind.wrap .i64 (List.getD x3 (Int.toNat x2) 0)))), x1, (IntKind.wrap .i64 (x2 + 1)), x3))) none) (some (Sum.inr x0)))
noncomputable def f_iRow_length_run3 (x : (Int × Int × Int × (List Int))) : Option Int := iter (fun x => f_iRow_length_n3 x.1 x.2.1 x.2.2.1 x.2.2.2) FU x
noncomputable def f_iRow_length_G3 (r : List A) (x : (Int × Int × Int × (List Int))) : Prop := f_iRow_length_L r 3 (f_iRow_length_s3 x.1 x.2.1 x.2.2.1 x.2.2.2) = some r
noncomputable def f_iRow_length_S3 (r : List A) : Int → Prop := fun v => r = l_iRow_length v
theorem f_iRow_length_go3 (r : List A) : ∀ x, sem (f_iRow_length_S3 r) (f_iRow_length_run3 x) → f_iRow_length_G3 r x :=
  fun x => iter_sound (step := fun x => f_iRow_length_n3 x.1 x.2.1 x.2.2.1 x.2.2.2) (fun x h => by
    unfold f_iRow_length_n3 at h
    exact f_iRow_length_step3 x.1 x.2.1 x.2.2.1 x.2.2.2 r ((sem_cond h (fun h => (sem_cond h (fun h => sem_got h fun q => q) (fun h => sem_none h))) (fun h => sem_got h fun q => some_eq q)))) FU x
noncomputable def s_iRow_length (a0 : (List Int)) (a1 : Int) : Option Int := (f_iRow_length_run3 ((IntKind.wrap .i64 ((IntKind.wrap .i64 (((List.length a0 : Nat) : Int) - 1)) * a1)), ((List.length a0 : Nat) : Int), 0, a0))
theorem f_iRow_length_top (a0 : (List Int)) (a1 : Int) (r : List A) : ev f_iRow_length_X (lpc (cnOf f_iRow_length_LV) (f_iRow_length_L r)) f_iRow_length_c (K0 TT f_iRow_length_rv) (enter [.lst (.one (.i .i16)) a0, .v (.int .i64 a1)]) = (f_iRow_length_L r 3 (f_iRow_length_s3 (IntKind.wrap .i64 ((IntKind.wrap .i64 (((List.length a0 : Nat) : Int) - 1)) * a1)) ((List.length a0 : Nat) : Int) 0 a0)) := by kernel_rfl
theorem s_iRow_length_ok (a0 : (List Int)) (a1 : Int) (v : Int) (h : s_iRow_length a0 a1 = some v) : (f_iRow_length_L (l_iRow_length v) 3 (f_iRow_length_s3 (IntKind.wrap .i64 ((IntKind.wrap .i64 (((List.length a0 : Nat) : Int) - 1)) * a1)) ((List.length a0 : Nat) : Int) 0 a0)) = some (l_iRow_length v) := by
  unfold s_iRow_length at h
  have go : ∀ r, sem (fun v => r = l_iRow_length v) ((f_iRow_length_run3 ((IntKind.wrap .i64 ((IntKind.wrap .i64 (((List.length a0 : Nat) : Int) - 1)) * a1)), ((List.length a0 : Nat) : Int), 0, a0))) → (f_iRow_length_L r 3 (f_iRow_length_s3 (IntKind.wrap .i64 ((IntKind.wrap .i64 (((List.length a0 : Nat) : Int) - 1)) * a1)) ((List.length a0 : Nat) : Int) 0 a0)) = some r := fun r h => f_iRow_length_go3 r _ h
  exact go (l_iRow_length v) ⟨v, h, rfl⟩
noncomputable def c_iRow_length : List A → ACall
  | [.lst (.one (.i .i16)) a0, .v (.int .i64 a1)] => ⟨Int, s_iRow_length a0 a1, fun r => .one (.v (.int .i64 r))⟩
  | _ => ACall.fail
theorem f_iRow_length_sound : Sound Tryd.prog 53 c_iRow_length := by
  refine sound_good f_iRow_length_ctx f_iRow_length_LV 2 Tryd.func53 (c := f_iRow_length_c) (by kernel_rfl) (rv := f_iRow_length_rv) (by kernel_rfl) (by kernel_rfl) (by kernel_rfl) (by kernel_rfl) fun rs => ?_
  unfold c_iRow_length
  split
  · rename_i a0 a1; intro v h; exact ⟨rfl, l_iRow_length v, rfl, (f_iRow_length_top a0 a1 _).trans (s_iRow_length_ok a0 a1 v h)⟩
  · intro v h; cases h

/-! ### function 16: loop.example/g01322/impl.LengthOf -/
noncomputable def f_iLengthOf_c : Code := match Tryd.f16.body with | some c => c | none => .skip
noncomputable def f_iLengthOf_X : Ctx := ⟨TT, phiOf [(44, c_iValidRow), (46, c_iisSeam), (52, c_icodeOf), (53, c_iRow_length)], noPsi, noXi⟩
def f_iLengthOf_LV : List (Nat × Keep) := []
def f_iLengthOf_rv : List ResultVar := [.tmp 4, .tmp 5]
noncomputable def f_iLengthOf_L (r : List A) : Nat → AS → Option (List A) := L f_iLengthOf_X (cnOf f_iLengthOf_LV) f_iLengthOf_c (K0 TT f_iLengthOf_rv) r
theorem f_iLengthOf_ctx : CtxOK Tryd.prog f_iLengthOf_X := ctx_of tab mix ⟨⟨Tryd.call44, f_iValidRow_sound⟩, ⟨Tryd.call46, f_iisSeam_sound⟩, ⟨Tryd.call52, f_icodeOf_sound⟩, ⟨Tryd.call53, f_iRow_length_sound⟩, trivial⟩
noncomputable def s_iLengthOf (a0 : (List Int)) (a1 : Int) : Option (Int × Int) := (Option.bind (s_iValidRow a0) fun r1 => (cond ((s_icodeOf r1 (s_iisSeam a1)) != 0) (some (0, (s_icodeOf r1 (s_iisSeam a1)))) (Option.bind (s_iRow_length a0 a1) fun r2 => (some (r2, 0)))))
theorem f_iLengthOf_top (a0 : (List Int)) (a1 : Int) (r : List A) : ev f_iLengthOf_X (lpc (cnOf f_iLengthOf_LV) (f_iLengthOf_L r)) f_iLengthOf_c (K0 TT f_iLengthOf_rv) (enter [.lst (.one (.i .i16)) a0, .v (.int .i64 a1)]) = (Option.bind (s_iValidRow a0) fun r1 => (cond ((s_icodeOf r1 (s_iisSeam a1)) != 0) (some [.v (.int .i64 0), .v (.int .i64 (s_icodeOf r1 (s_iisSeam a1)))]) (Option.bind (s_iRow_length a0 a1) fun r2 => (some [.v (.int .i64 r2), .v (.int .i64 0)])))) := by kernel_rfl
noncomputable def l_iLengthOf (r : (Int × Int)) : List A := [.v (.int .i64 r.1), .v (.int .i64 r.2)]
theorem s_iLengthOf_ok (a0 : (List Int)) (a1 : Int) (v : (Int × Int)) (h : s_iLengthOf a0 a1 = some v) : (Option.bind (s_iValidRow a0) fun r1 => (cond ((s_icodeOf r1 (s_iisSeam a1)) != 0) (some [.v (.int .i64 0), .v (.int .i64 (s_icodeOf r1 (s_iisSeam a1)))]) (Option.bind (s_iRow_length a0 a1) fun r2 => (some [.v (.int .i64 r2), .v (.int .i64 0)])))) = some (l_iLengthOf v) := by
  have e : (Option.bind (s_iValidRow a0) fun r1 => (cond ((s_icodeOf r1 (s_iisSeam a1)) != 0) (some [.v (.int .i64 0), .v (.int .i64 (s_icodeOf r1 (s_iisSeam a1)))]) (Option.bind (s_iRow_length a0 a1) fun r2 => (some [.v (.int .i64 r2), .v (.int .i64 0)])))) = Option.map l_iLengthOf (s_iLengthOf a0 a1) := by
    unfold s_iLengthOf
    exact (bind_app fun _ => (cond_app (Option.map l_iLengthOf) rfl (bind_app fun _ => rfl)))
  rw [e, h]; rfl
noncomputable def c_iLengthOf : List A → ACall
  | [.lst (.one (.i .i16)) a0, .v (.int .i64 a1)] => ⟨(Int × Int), s_iLengthOf a0 a1, fun r => .tup [.v (.int .i64 r.1), .v (.int .i64 r.2)]⟩
  | _ => ACall.fail
theorem f_iLengthOf_sound : Sound Tryd.prog 16 c_iLengthOf := by
  refine sound_good f_iLengthOf_ctx f_iLengthOf_LV 2 Tryd.func16 (c := f_iLengthOf_c) (by kernel_rfl) (rv := f_iLengthOf_rv) (by kernel_rfl) (by kernel_rfl) (by kernel_rfl) (by kernel_rfl) fun rs => ?_
  unfold c_iLengthOf
  split
  · rename_i a0 a1; intro v h; exact ⟨rfl, l_iLengthOf v, rfl, (f_iLengthOf_top a0 a1 _).trans (s_iLengthOf_ok a0 a1 v h)⟩
  · intro v h; cases h

/-! ### function 64: (loop.example/g01322/impl.Row).joints -/
noncomputable def f_iRow_joints_c : Code := match Tryd.f64.body with | some c => c | none => .skip
noncomputable def f_iRow_joints_X : Ctx := ⟨TT, phiOf [], noPsi, noXi⟩
def f_iRow_joints_LV : List (Nat × Keep) := [(3, ([1, 5, 6, 14, 15, 16], [], []))]
def f_iRow_joints_rv : List ResultVar := [.tmp 4]
noncomputable def f_iRow_joints_L (r : List A) : Nat → AS → Option (List A) := L f_iRow_joints_X (cnOf f_iRow_joints_LV) f_iRow_joints_c (K0 TT f_iRow_joints_rv) r
theorem f_iRow_joints_ctx : CtxOK Tryd.prog f_iRow_joints_X := ctx_of tab mix trivial
noncomputable def f_iRow_joints_s3 (x0 : Int) (x1 : Int) (x2 : Int) (x3 : Int) (x4 : (List (Int × Int))) (x5 : (List Int)) : AS := ⟨[(1, .a (.v (.int .i64 x0))), (5, .a (.sl 0)), (6, .a (.v (.int .i64 x1))), (14, .a (.sl 1)), (15, .a (.v (.int .i64 x2))), (16, .a (.v (.int .i64 x3)))], [(0, some ⟨true, .arr (.st [(.i .i16), (.i .i16)]) x4⟩), (1, some ⟨false, .arr (.one (.i .i16)) x5⟩)], 2⟩
noncomputable def l_iRow_joints (r : (List (Int × Int))) : List A := [.lst (.st [(.i .i16), (.i .i16)]) r]
theorem f_iRow_joints_step3 (x0 : Int) (x1 : Int) (x2 : Int) (x3 : Int) (x4 : (List (Int × Int))) (x5 : (List Int)) (r : List A) (h : (cond (decide (x3 < x2)) (cond (inB x3 (List.length x5)) (cond (fits ((List.length (x4 : List (Int × Int)) + List.length ([((IntKind.wrap .i16 (IntKind.wrap .i64 (x1 + (IntKind.wrap .i64 (List.getD x5 (Int.toNat x3) 0))))), (IntKind.wrap .i16 (IntKind.wrap .i64 ((IntKind.wrap .i64 (x1 + (IntKind.wrap .i64 (List.getD x5 (Int.toNat x3) 0)))) + x0))))] : List (Int × Int))) * 4)) (f_iRow_joints_L r 3 (f_iRow_joints_s3 x0 (IntKind.wrap .i64 ((IntKind.wrap .i64 (x1 + (IntKind.wrap .i64 (List.getD x5 (Int.toNat x3) 0)))) + x0)) x2 (IntKind.wrap .i64 (x3 + 1)) (x4 ++ [((IntKind.wrap .i16 (IntKind.wrap .i64 (x1 + (IntKind.wrap .i64 (List.getD x5 (Int.toNat x3) 0))))), (IntKind.wrap .i16 (IntKind.wrap .i64 ((IntKind.wrap .i64 (x1 + (IntKind.wrap .i64 (List.getD x5 (Int.toNat x3) 0)))) + x0))))]) x5)) none) none) (some [.lst (.st [(.i .i16), (.i .i16)]) x4])) = some r) : f_iRow_joints_L r 3 (f_iRow_joints_s3 x0 x1 x2 x3 x4 x5) = some r :=
  step_of' h (by kernel_rfl)
noncomputable def f_iRow_joints_n3 (x0 : Int) (x1 : Int) (x2 : Int) (x3 : Int) (x4 : (List (Int × Int))) (x5 : (List Int)) : Option ((Int × Int × Int × Int × (List (Int × Int)) × (List Int)) ⊕ (List (Int × Int))) := (cond (decide (x3 < x2)) (cond (inB x3 (List.length x5)) (cond (fits ((List.length (x4 : List (Int × Int)) + List.length ([((IntKind.wrap .i16 (IntKind.wrap .i64 (x1 + (IntKind.wrap .i64 (List.getD x5 (Int.toNat x3) 0))))), (IntKind.wrap .i16 (IntKind.wrap .i64 ((IntKind.wrap .i64 (x1 + (IntKind.wrap .i64 (List.getD x5 (Int.toNat x3) 0)))) + x0))))] : List (Int × Int))) * 4)) (some (Sum.inl (x0, (IntKind.wrap .i64 ((IntKind.wrap .i64 (x1 + (IntKind.wrap .i64 (List.getD x5 (Int.toNat x3) 0)))) + x0)), x2, (IntKind.wrap .i64 (x3 + 1)), (x4 ++ [((IntKind.wrap .i16 (IntKind.wrap .i64 (x1 + (IntKind.wrap .i64 (List.getD x5 (Int.toNat x3) 0))))), (IntKind.wrap .i16 (IntKind.wrap .i64 ((IntKind.wrap .i64 (x1 + (IntKind.wrap .i64 (List.getD x5 (Int.toNat x3) 0)))) + x0))))]), x5))) none) none) (some (Sum.inr x4)))
noncomputable def f_iRow_joints_run3 (x : (Int × Int × Int × Int × (List (Int × Int)) × (List Int))) : Option (List (Int × Int)) := iter (fun x => f_iRow_joints_n3 x.1 x.2.1 x.2.2.1 x.2.2.2.1 x.2.2.2.2.1 x.2.2.2.2.2) FU x
noncomputable def f_iRow_joints_G3 (r : List A) (x : (Int × Int × Int × Int × (List (Int × Int)) × (List Int))) : Prop := f_iRow_joints_L r 3 (f_iRow_joints_s3 x.1 x.2.1 x.2.2.1 x.2.2.2.1 x.2.2.2.2.1 x.2.2.2.2.2) = some r
noncomputable def f_iRow_joints_S3 (r : List A) : (List (Int × Int)) → Prop := fun v => r = l_iRow_joints v
theorem f_iRow_joints_go3 (r : List A) : ∀ x, sem (f_iRow_joints_S3 r) (f_iRow_joints_run3 x) → f_iRow_joints_G3 r x :=
  fun x => iter_sound (step := fun x => f_iRow_joints_n3 x.1 x.2.1 x.2.2.1 x.2.2.2.1 x.2.2.2.2.1 x.2.2.2.2.2) (fun x h => by
    unfold f_iRow_joints_n3 at h
    exact f_iRow_joints_step3 x.1 x.2.1 x.2.2.1 x.2.2.2.1 x.2.2.2.2.1 x.2.2.2.2.2 r ((sem_cond h (fun h => (sem_cond h (fun h => (sem_cond h (fun h => sem_got h fun q => q) (fun h => sem_none h))) (fun h => sem_none h))) (fun h => sem_got h fun q => some_eq q)))) FU x
noncomputable def s_iRow_joints (a0 : (List Int)) (a1 : Int) : Option (List (Int × Int)) := (cond (inS 0 (IntKind.wrap .i64 (((List.length a0 : Nat) : Int) - 1)) (List.length a0)) (f_iRow_joints_run3 (a1, 0, ((List.length (List.drop 0 (List.take (Int.toNat (IntKind.wrap .i64 (((List.length a0 : Nat) : Int) - 1))) a0)) : Nat) : Int), 0, [], (List.drop 0 (List.take (Int.toNat (IntKind.wrap .i64 (((List.length a0 : Nat) : Int) - 1))) a0)))) none)
theorem f_iRow_joints_top (a0 : (List Int)) (a1 : Int) (r : List A) : ev f_iRow_joints_X (lpc (cnOf f_iRow_joints_LV) (f_iRow_joints_L r)) f_iRow_joints_c (K0 TT f_iRow_joints_rv) (enter [.lst (.one (.i .i16)) a0, .v (.int .i64 a1)]) = (cond (inS 0 (IntKind.wrap .i64 (((List.length a0 : Nat) : Int) - 1)) (List.length a0)) (f_iRow_joints_L r 3 (f_iRow_joints_s3 a1 0 ((List.length (List.drop 0 (List.take (Int.toNat (IntKind.wrap .i64 (((List.length a0 : Nat) : Int) - 1))) a0)) : Nat) : Int) 0 [] (List.drop 0 (List.take (Int.toNat (IntKind.wrap .i64 (((List.length a0 : Nat) : Int) - 1))) a0)))) none) := by kernel_rfl
theorem s_iRow_joints_ok (a0 : (List Int)) (a1 : Int) (v : (List (Int × Int))) (h : s_iRow_joints a0 a1 = some v) : (cond (inS 0 (IntKind.wrap .i64 (((List.length a0 : Nat) : Int) - 1)) (List.length a0)) (f_iRow_joints_L (l_iRow_joints v) 3 (f_iRow_joints_s3 a1 0 ((List.length (List.drop 0 (List.take (Int.toNat (IntKind.wrap .i64 (((List.length a0 : Nat) : Int) - 1))) a0)) : Nat) : Int) 0 [] (List.drop 0 (List.take (Int.toNat (IntKind.wrap .i64 (((List.length a0 : Nat) : Int) - 1))) a0)))) none) = some (l_iRow_joints v) := by
  unfold s_iRow_joints at h
  have go : ∀ r, sem (fun v => r = l_iRow_joints v) ((cond (inS 0 (IntKind.wrap .i64 (((List.length a0 : Nat) : Int) - 1)) (List.length a0)) (f_iRow_joints_run3 (a1, 0, ((List.length (List.drop 0 (List.take (Int.toNat (IntKind.wrap .i64 (((List.length a0 : Nat) : Int) - 1))) a0)) : Nat) : Int), 0, [], (List.drop 0 (List.take (Int.toNat (IntKind.wrap .i64 (((List.length a0 : Nat) : Int) - 1))) a0)))) none)) → (cond (inS 0 (IntKind.wrap .i64 (((List.length a0 : Nat) : Int) - 1)) (List.length a0)) (f_iRow_joints_L r 3 (f_iRow_joints_s3 a1 0 ((List.length (List.drop 0 (List.take (Int.toNat (IntKind.wrap .i64 (((List.length a0 : Nat) : Int) - 1))) a0)) : Nat) : Int) 0 [] (List.drop 0 (List.take (Int.toNat (IntKind.wrap .i64 (((List.length a0 : Nat) : Int) - 1))) a0)))) none) = some r := fun r h => (sem_cond h (fun h => f_iRow_joints_go3 r _ h) (fun h => sem_none h))
  exact go (l_iRow_joints v) ⟨v, h, rfl⟩
noncomputable def c_iRow_joints : List A → ACall
  | [.lst (.one (.i .i16)) a0, .v (.int .i64 a1)] => ⟨(List (Int × Int)), s_iRow_joints a0 a1, fun r => .one (.lst (.st [(.i .i16), (.i .i16)]) r)⟩
  | _ => ACall.fail
theorem f_iRow_joints_sound : Sound Tryd.prog 64 c_iRow_joints := by
  refine sound_good f_iRow_joints_ctx f_iRow_joints_LV 2 Tryd.func64 (c := f_iRow_joints_c) (by kernel_rfl) (rv := f_iRow_joints_rv) (by kernel_rfl) (by kernel_rfl) (by kernel_rfl) (by kernel_rfl) fun rs => ?_
  unfold c_iRow_joints
  split
  · rename_i a0 a1; intro v h; exact ⟨rfl, l_iRow_joints v, rfl, (f_iRow_joints_top a0 a1 _).trans (s_iRow_joints_ok a0 a1 v h)⟩
  · intro v h; cases h

/-! ### function 65: loop.example/g01322/impl.apartOf -/
noncomputable def f_iapartOf_c : Code := match Tryd.f65.body with | some c => c | none => .skip
noncomputable def f_iapartOf_X : Ctx := ⟨TT, phiOf [], noPsi, noXi⟩
def f_iapartOf_LV : List (Nat × Keep) := []
def f_iapartOf_rv : List ResultVar := [.tmp 4]
noncomputable def f_iapartOf_L (r : List A) : Nat → AS → Option (List A) := L f_iapartOf_X (cnOf f_iapartOf_LV) f_iapartOf_c (K0 TT f_iapartOf_rv) r
theorem f_iapartOf_ctx : CtxOK Tryd.prog f_iapartOf_X := ctx_of tab mix trivial
noncomputable def s_iapartOf (a0 : Int) (a1 : Int) (a2 : Int) (a3 : Int) : Int := (IntKind.wrap .i64 ((IntKind.wrap .i64 (max a0 a2)) - (IntKind.wrap .i64 (min a1 a3))))
theorem f_iapartOf_top (a0 : Int) (a1 : Int) (a2 : Int) (a3 : Int) (r : List A) : ev f_iapartOf_X (lpc (cnOf f_iapartOf_LV) (f_iapartOf_L r)) f_iapartOf_c (K0 TT f_iapartOf_rv) (enter [.rc [.v (.int .i16 a0), .v (.int .i16 a1)], .rc [.v (.int .i16 a2), .v (.int .i16 a3)]]) = (some [.v (.int .i64 (IntKind.wrap .i64 ((IntKind.wrap .i64 (max a0 a2)) - (IntKind.wrap .i64 (min a1 a3)))))]) := by kernel_rfl
noncomputable def l_iapartOf (r : Int) : List A := [.v (.int .i64 r)]
theorem s_iapartOf_ok (a0 : Int) (a1 : Int) (a2 : Int) (a3 : Int) : (some [.v (.int .i64 (IntKind.wrap .i64 ((IntKind.wrap .i64 (max a0 a2)) - (IntKind.wrap .i64 (min a1 a3)))))]) = some (l_iapartOf (s_iapartOf a0 a1 a2 a3)) := by
  unfold s_iapartOf
  exact rfl
noncomputable def c_iapartOf : List A → ACall
  | [.rc [.v (.int .i16 a0), .v (.int .i16 a1)], .rc [.v (.int .i16 a2), .v (.int .i16 a3)]] => ⟨Int, some (s_iapartOf a0 a1 a2 a3), fun r => .one (.v (.int .i64 r))⟩
  | _ => ACall.fail
theorem f_iapartOf_sound : Sound Tryd.prog 65 c_iapartOf := by
  refine sound_good f_iapartOf_ctx f_iapartOf_LV 2 Tryd.func65 (c := f_iapartOf_c) (by kernel_rfl) (rv := f_iapartOf_rv) (by kernel_rfl) (by kernel_rfl) (by kernel_rfl) (by kernel_rfl) fun rs => ?_
  unfold c_iapartOf
  split
  · rename_i a0 a1 a2 a3; intro v h; cases h; exact ⟨rfl, l_iapartOf (s_iapartOf a0 a1 a2 a3), rfl, (f_iapartOf_top a0 a1 a2 a3 _).trans (s_iapartOf_ok a0 a1 a2 a3)⟩
  · intro v h; cases h

/-! ### function 55: loop.example/g01322/impl.clashes -/
noncomputable def f_iclashes_c : Code := match Tryd.f55.body with | some c => c | none => .skip
noncomputable def f_iclashes_X : Ctx := ⟨TT, phiOf [(64, c_iRow_joints), (65, c_iapartOf)], noPsi, noXi⟩
def f_iclashes_LV : List (Nat × Keep) := [(3, ([3, 9, 10, 21, 22, 23], [], [])), (6, ([3, 9, 10, 11, 12, 21, 22, 23, 28, 29, 30], [], []))]
def f_iclashes_rv : List ResultVar := [.tmp 8]
noncomputable def f_iclashes_L (r : List A) : Nat → AS → Option (List A) := L f_iclashes_X (cnOf f_iclashes_LV) f_iclashes_c (K0 TT f_iclashes_rv) r
theorem f_iclashes_ctx : CtxOK Tryd.prog f_iclashes_X := ctx_of tab mix ⟨⟨Tryd.call64, f_iRow_joints_sound⟩, ⟨Tryd.call65, f_iapartOf_sound⟩, trivial⟩
noncomputable def f_iclashes_s3 (x0 : Int) (x1 : Int) (x2 : Int) (x3 : (List (Nat → Int))) (x4 : (List (Int × Int))) (x5 : (List (Int × Int))) : AS := ⟨[(3, .a (.v (.int .i64 x0))), (9, .a (.sl 0)), (10, .a (.sl 1)), (21, .a (.sl 2)), (22, .a (.v (.int .i64 x1))), (23, .a (.v (.int .i64 x2)))], [(0, some ⟨true, .arr (.one (.fa 2 .i64)) x3⟩), (1, some ⟨true, .arr (.st [(.i .i16), (.i .i16)]) x4⟩), (2, some ⟨true, .arr (.st [(.i .i16), (.i .i16)]) x5⟩)], 3⟩
noncomputable def f_iclashes_s6 (x0 : Int) (x1 : Int) (x2 : Int) (x3 : Int) (x4 : Int) (x5 : Int) (x6 : (List (Nat → Int))) (x7 : (List (Int × Int))) (x8 : Int) (x9 : Int) (x10 : (List (Int × Int))) : AS := ⟨[(3, .a (.v (.int .i64 x0))), (9, .a (.sl 0)), (10, .a (.sl 1)), (11, .a (.v (.int .i64 x1))), (12, .a (.ptr 2 [] (0))), (21, .a (.sl 3)), (22, .a (.v (.int .i64 x2))), (23, .a (.v (.int .i64 x3))), (28, .a (.sl 1)), (29, .a (.v (.int .i64 x4))), (30, .a (.v (.int .i64 x5)))], [(0, some ⟨true, .arr (.one (.fa 2 .i64)) x6⟩), (1, some ⟨true, .arr (.st [(.i .i16), (.i .i16)]) x7⟩), (2, some ⟨true, .box (.rc [.v (.int .i16 x8), .v (.int .i16 x9)])⟩), (3, some ⟨true, .arr (.st [(.i .i16), (.i .i16)]) x10⟩)], 4⟩
noncomputable def l_iclashes (r : (List (Nat → Int))) : List A := [.lst (.one (.fa 2 .i64)) r]
theorem f_iclashes_step6 (x0 : Int) (x1 : Int) (x2 : Int) (x3 : Int) (x4 : Int) (x5 : Int) (x6 : (List (Nat → Int))) (x7 : (List (Int × Int))) (x8 : Int) (x9 : Int) (x10 : (List (Int × Int))) (r : List A) (h : (cond (decide (x5 < x4)) (cond (inB x5 (List.length x7)) (cond (decide ((s_iapartOf x8 x9 (List.getD x7 (Int.toNat x5) ((0, 0) : (Int × Int))).1 (List.getD x7 (Int.toNat x5) ((0, 0) : (Int × Int))).2) < x0)) (cond (fits ((List.length (x6 : List (Nat → Int)) + List.length ([(upd (upd zF 0 x1) 1 x5)] : List (Nat → Int))) * 16)) (f_iclashes_L r 6 (f_iclashes_s6 x0 x1 x2 x3 x4 (IntKind.wrap .i64 (x5 + 1)) (x6 ++ [(upd (upd zF 0 x1) 1 x5)]) x7 x8 x9 x10)) none) (f_iclashes_L r 6 (f_iclashes_s6 x0 x1 x2 x3 x4 (IntKind.wrap .i64 (x5 + 1)) x6 x7 x8 x9 x10))) none) (f_iclashes_L r 3 (f_iclashes_s3 x0 x2 (IntKind.wrap .i64 (x3 + 1)) x6 x7 x10))) = some r) : f_iclashes_L r 6 (f_iclashes_s6 x0 x1 x2 x3 x4 x5 x6 x7 x8 x9 x10) = some r :=
  step_of' h (by kernel_rfl)
noncomputable def f_iclashes_n6 (x0 : Int) (x1 : Int) (x2 : Int) (x3 : Int) (x4 : Int) (x5 : Int) (x6 : (List (Nat → Int))) (x7 : (List (Int × Int))) (x8 : Int) (x9 : Int) (x10 : (List (Int × Int))) : Option ((Int × Int × Int × Int × Int × Int × (List (Nat → Int)) × (List (Int × Int)) × Int × Int × (List (Int × Int))) ⊕ ((Int × Int × Int × (List (Nat → Int)) × (List (Int × Int)) × (List (Int × Int))) ⊕ (List (Nat → Int)))) := (cond (decide (x5 < x4)) (cond (inB x5 (List.length x7)) (cond (decide ((s_iapartOf x8 x9 (List.getD x7 (Int.toNat x5) ((0, 0) : (Int × Int))).1 (List.getD x7 (Int.toNat x5) ((0, 0) : (Int × Int))).2) < x0)) (cond (fits ((List.length (x6 : List (Nat → Int)) + List.length ([(upd (upd zF 0 x1) 1 x5)] : List (Nat → Int))) * 16)) (some (Sum.inl (x0, x1, x2, x3, x4, (IntKind.wrap .i64 (x5 + 1)), (x6 ++ [(upd (upd zF 0 x1) 1 x5)]), x7, x8, x9, x10))) none) (some (Sum.inl (x0, x1, x2, x3, x4, (IntKind.wrap .i64 (x5 + 1)), x6, x7, x8, x9, x10)))) none) (some (Sum.inr (Sum.inl (x0, x2, (IntKind.wrap .i64 (x3 + 1)), x6, x7, x10)))))
noncomputable def f_iclashes_run6 (x : (Int × Int × Int × Int × Int × Int × (List (Nat → Int)) × (List (Int × Int)) × Int × Int × (List (Int × Int)))) : Option ((Int × Int × Int × (List (Nat → Int)) × (List (Int × Int)) × (List (Int × Int))) ⊕ (List (Nat → Int))) := iter (fun x => f_iclashes_n6 x.1 x.2.1 x.2.2.1 x.2.2.2.1 x.2.2.2.2.1 x.2.2.2.2.2.1 x.2.2.2.2.2.2.1 x.2.2.2.2.2.2.2.1 x.2.2.2.2.2.2.2.2.1 x.2.2.2.2.2.2.2.2.2.1 x.2.2.2.2.2.2.2.2.2.2) FU x
noncomputable def f_iclashes_G6 (r : List A) (x : (Int × Int × Int × Int × Int × Int × (List (Nat → Int)) × (List (Int × Int)) × Int × Int × (List (Int × Int)))) : Prop := f_iclashes_L r 6 (f_iclashes_s6 x.1 x.2.1 x.2.2.1 x.2.2.2.1 x.2.2.2.2.1 x.2.2.2.2.2.1 x.2.2.2.2.2.2.1 x.2.2.2.2.2.2.2.1 x.2.2.2.2.2.2.2.2.1 x.2.2.2.2.2.2.2.2.2.1 x.2.2.2.2.2.2.2.2.2.2) = some r
theorem f_iclashes_step3 (x0 : Int) (x1 : Int) (x2 : Int) (x3 : (List (Nat → Int))) (x4 : (List (Int × Int))) (x5 : (List (Int × Int))) (r : List A) (h : (cond (decide (x2 < x1)) (cond (inB x2 (List.length x5)) (f_iclashes_L r 6 (f_iclashes_s6 x0 x2 x1 x2 ((List.length x4 : Nat) : Int) 0 x3 x4 (List.getD x5 (Int.toNat x2) ((0, 0) : (Int × Int))).1 (List.getD x5 (Int.toNat x2) ((0, 0) : (Int × Int))).2 x5)) none) (some [.lst (.one (.fa 2 .i64)) x3])) = some r) : f_iclashes_L r 3 (f_iclashes_s3 x0 x1 x2 x3 x4 x5) = some r :=
  step_of' h (by kernel_rfl)
noncomputable def f_iclashes_n3 (x0 : Int) (x1 : Int) (x2 : Int) (x3 : (List (Nat → Int))) (x4 : (List (Int × Int))) (x5 : (List (Int × Int))) : Option ((Int × Int × Int × (List (Nat → Int)) × (List (Int × Int)) × (List (Int × Int))) ⊕ (List (Nat → Int))) := (cond (decide (x2 < x1)) (cond (inB x2 (List.length x5)) (f_iclashes_run6 (x0, x2, x1, x2, ((List.length x4 : Nat) : Int), 0, x3, x4, (List.getD x5 (Int.toNat x2) ((0, 0) : (Int × Int))).1, (List.getD x5 (Int.toNat x2) ((0, 0) : (Int × Int))).2, x5)) none) (some (Sum.inr x3)))
noncomputable def f_iclashes_run3 (x : (Int × Int × Int × (List (Nat → Int)) × (List (Int × Int)) × (List (Int × Int)))) : Option (List (Nat → Int)) := iter (fun x => f_iclashes_n3 x.1 x.2.1 x.2.2.1 x.2.2.2.1 x.2.2.2.2.1 x.2.2.2.2.2) FU x
noncomputable def f_iclashes_G3 (r : List A) (x : (Int × Int × Int × (List (Nat → Int)) × (List (Int × Int)) × (List (Int × Int)))) : Prop := f_iclashes_L r 3 (f_iclashes_s3 x.1 x.2.1 x.2.2.1 x.2.2.2.1 x.2.2.2.2.1 x.2.2.2.2.2) = some r
noncomputable def f_iclashes_S3 (r : List A) : (List (Nat → Int)) → Prop := fun v => r = l_iclashes v
noncomputable def f_iclashes_S6 (r : List A) : ((Int × Int × Int × (List (Nat → Int)) × (List (Int × Int)) × (List (Int × Int))) ⊕ (List (Nat → Int))) → Prop := goesOn (f_iclashes_G3 r) (f_iclashes_S3 r)
theorem f_iclashes_go6 (r : List A) : ∀ x, sem (f_iclashes_S6 r) (f_iclashes_run6 x) → f_iclashes_G6 r x :=
  fun x => iter_sound (step := fun x => f_iclashes_n6 x.1 x.2.1 x.2.2.1 x.2.2.2.1 x.2.2.2.2.1 x.2.2.2.2.2.1 x.2.2.2.2.2.2.1 x.2.2.2.2.2.2.2.1 x.2.2.2.2.2.2.2.2.1 x.2.2.2.2.2.2.2.2.2.1 x.2.2.2.2.2.2.2.2.2.2) (fun x h => by
    unfold f_iclashes_n6 at h
    exact f_iclashes_step6 x.1 x.2.1 x.2.2.1 x.2.2.2.1 x.2.2.2.2.1 x.2.2.2.2.2.1 x.2.2.2.2.2.2.1 x.2.2.2.2.2.2.2.1 x.2.2.2.2.2.2.2.2.1 x.2.2.2.2.2.2.2.2.2.1 x.2.2.2.2.2.2.2.2.2.2 r ((sem_cond h (fun h => (sem_cond h (fun h => (sem_cond h (fun h => (sem_cond h (fun h => sem_got h fun q => q) (fun h => sem_none h))) (fun h => sem_got h fun q => q))) (fun h => sem_none h))) (fun h => sem_got h fun q => q)))) FU x
theorem f_iclashes_go3 (r : List A) : ∀ x, sem (f_iclashes_S3 r) (f_iclashes_run3 x) → f_iclashes_G3 r x :=
  fun x => iter_sound (step := fun x => f_iclashes_n3 x.1 x.2.1 x.2.2.1 x.2.2.2.1 x.2.2.2.2.1 x.2.2.2.2.2) (fun x h => by
    unfold f_iclashes_n3 at h
    exact f_iclashes_step3 x.1 x.2.1 x.2.2.1 x.2.2.2.1 x.2.2.2.2.1 x.2.2.2.2.2 r ((sem_cond h (fun h => (sem_cond h (fun h => f_iclashes_go6 r _ h) (fun h => sem_none h))) (fun h => sem_got h fun q => some_eq q)))) FU x
noncomputable def s_iclashes (a0 : (List Int)) (a1 : (List Int)) (a2 : Int) (a3 : Int) : Option (List (Nat → Int)) := (Option.bind (s_iRow_joints a1 a2) fun r1 => (Option.bind (s_iRow_joints a0 a2) fun r2 => (f_iclashes_run3 (a3, ((List.length r2 : Nat) : Int), 0, [], r1, r2))))
theorem f_iclashes_top (a0 : (List Int)) (a1 : (List Int)) (a2 : Int) (a3 : Int) (r : List A) : ev f_iclashes_X (lpc (cnOf f_iclashes_LV) (f_iclashes_L r)) f_iclashes_c (K0 TT f_iclashes_rv) (enter [.lst (.one (.i .i16)) a0, .lst (.one (.i .i16)) a1, .v (.int .i64 a2), .v (.int .i64 a3)]) = (Option.bind (s_iRow_joints a1 a2) fun r1 => (Option.bind (s_iRow_joints a0 a2) fun r2 => (f_iclashes_L r 3 (f_iclashes_s3 a3 ((List.length r2 : Nat) : Int) 0 [] r1 r2)))) := by kernel_rfl
theorem s_iclashes_ok (a0 : (List Int)) (a1 : (List Int)) (a2 : Int) (a3 : Int) (v : (List (Nat → Int))) (h : s_iclashes a0 a1 a2 a3 = some v) : (Option.bind (s_iRow_joints a1 a2) fun r1 => (Option.bind (s_iRow_joints a0 a2) fun r2 => (f_iclashes_L (l_iclashes v) 3 (f_iclashes_s3 a3 ((List.length r2 : Nat) : Int) 0 [] r1 r2)))) = some (l_iclashes v) := by
  unfold s_iclashes at h
  have go : ∀ r, sem (fun v => r = l_iclashes v) ((Option.bind (s_iRow_joints a1 a2) fun r1 => (Option.bind (s_iRow_joints a0 a2) fun r2 => (f_iclashes_run3 (a3, ((List.length r2 : Nat) : Int), 0, [], r1, r2))))) → (Option.bind (s_iRow_joints a1 a2) fun r1 => (Option.bind (s_iRow_joints a0 a2) fun r2 => (f_iclashes_L r 3 (f_iclashes_s3 a3 ((List.length r2 : Nat) : Int) 0 [] r1 r2)))) = some r := fun r h => (sem_bind h fun r1 h => (sem_bind h fun r2 h => f_iclashes_go3 r _ h))
  exact go (l_iclashes v) ⟨v, h, rfl⟩
noncomputable def c_iclashes : List A → ACall
  | [.lst (.one (.i .i16)) a0, .lst (.one (.i .i16)) a1, .v (.int .i64 a2), .v (.int .i64 a3)] => ⟨(List (Nat → Int)), s_iclashes a0 a1 a2 a3, fun r => .one (.lst (.one (.fa 2 .i64)) r)⟩
  | _ => ACall.fail
theorem f_iclashes_sound : Sound Tryd.prog 55 c_iclashes := by
  refine sound_good f_iclashes_ctx f_iclashes_LV 4 Tryd.func55 (c := f_iclashes_c) (by kernel_rfl) (rv := f_iclashes_rv) (by kernel_rfl) (by kernel_rfl) (by kernel_rfl) (by kernel_rfl) fun rs => ?_
  unfold c_iclashes
  split
  · rename_i a0 a1 a2 a3; intro v h; exact ⟨rfl, l_iclashes v, rfl, (f_iclashes_top a0 a1 a2 a3 _).trans (s_iclashes_ok a0 a1 a2 a3 v h)⟩
  · intro v h; cases h

/-! ### function 22: loop.example/g01322/impl.ClashesOf -/
noncomputable def f_iClashesOf_c : Code := match Tryd.f22.body with | some c => c | none => .skip
noncomputable def f_iClashesOf_X : Ctx := ⟨TT, phiOf [(44, c_iValidRow), (46, c_iisSeam), (52, c_icodeOf), (54, c_iwithin), (55, c_iclashes)], noPsi, noXi⟩
def f_iClashesOf_LV : List (Nat × Keep) := []
def f_iClashesOf_rv : List ResultVar := [.tmp 8, .tmp 9]
noncomputable def f_iClashesOf_L (r : List A) : Nat → AS → Option (List A) := L f_iClashesOf_X (cnOf f_iClashesOf_LV) f_iClashesOf_c (K0 TT f_iClashesOf_rv) r
theorem f_iClashesOf_ctx : CtxOK Tryd.prog f_iClashesOf_X := ctx_of tab mix ⟨⟨Tryd.call44, f_iValidRow_sound⟩, ⟨Tryd.call46, f_iisSeam_sound⟩, ⟨Tryd.call52, f_icodeOf_sound⟩, ⟨Tryd.call54, f_iwithin_sound⟩, ⟨Tryd.call55, f_iclashes_sound⟩, trivial⟩
noncomputable def s_iClashesOf (a0 : (List Int)) (a1 : (List Int)) (a2 : Int) (a3 : Int) : Option ((List (Nat → Int)) × Int) := (Option.bind (s_iValidRow a0) fun r1 => (cond r1 (Option.bind (s_iValidRow a1) fun r2 => (cond (s_iisSeam a2) (cond ((s_icodeOf r2 (s_iwithin a3 0 2000)) != 0) (some ([], (s_icodeOf r2 (s_iwithin a3 0 2000)))) (Option.bind (s_iclashes a0 a1 a2 a3) fun r3 => (some (r3, 0)))) (cond ((s_icodeOf r2 false) != 0) (some ([], (s_icodeOf r2 false))) (Option.bind (s_iclashes a0 a1 a2 a3) fun r4 => (some (r4, 0)))))) (cond (s_iisSeam a2) (cond ((s_icodeOf false (s_iwithin a3 0 2000)) != 0) (some ([], (s_icodeOf false (s_iwithin a3 0 2000)))) (Option.bind (s_iclashes a0 a1 a2 a3) fun r5 => (some (r5, 0)))) (cond ((s_icodeOf false false) != 0) (some ([], (s_icodeOf false false))) (Option.bind (s_iclashes a0 a1 a2 a3) fun r6 => (some (r6, 0)))))))
theorem f_iClashesOf_top (a0 : (List Int)) (a1 : (List Int)) (a2 : Int) (a3 : Int) (r : List A) : ev f_iClashesOf_X (lpc (cnOf f_iClashesOf_LV) (f_iClashesOf_L r)) f_iClashesOf_c (K0 TT f_iClashesOf_rv) (enter [.lst (.one (.i .i16)) a0, .lst (.one (.i .i16)) a1, .v (.int .i64 a2), .v (.int .i64 a3)]) = (Option.bind (s_iValidRow a0) fun r1 => (cond r1 (Option.bind (s_iValidRow a1) fun r2 => (cond (s_iisSeam a2) (cond ((s_icodeOf r2 (s_iwithin a3 0 2000)) != 0) (some [.lst (.one (.fa 2 .i64)) [], .v (.int .i64 (s_icodeOf r2 (s_iwithin a3 0 2000)))]) (Option.bind (s_iclashes a0 a1 a2 a3) fun r3 => (some [.lst (.one (.fa 2 .i64)) r3, .v (.int .i64 0)]))) (cond ((s_icodeOf r2 false) != 0) (some [.lst (.one (.fa 2 .i64)) [], .v (.int .i64 (s_icodeOf r2 false))]) (Option.bind (s_iclashes a0 a1 a2 a3) fun r4 => (some [.lst (.one (.fa 2 .i64)) r4, .v (.int .i64 0)]))))) (cond (s_iisSeam a2) (cond ((s_icodeOf false (s_iwithin a3 0 2000)) != 0) (some [.lst (.one (.fa 2 .i64)) [], .v (.int .i64 (s_icodeOf false (s_iwithin a3 0 2000)))]) (Option.bind (s_iclashes a0 a1 a2 a3) fun r5 => (some [.lst (.one (.fa 2 .i64)) r5, .v (.int .i64 0)]))) (cond ((s_icodeOf false false) != 0) (some [.lst (.one (.fa 2 .i64)) [], .v (.int .i64 (s_icodeOf false false))]) (Option.bind (s_iclashes a0 a1 a2 a3) fun r6 => (some [.lst (.one (.fa 2 .i64)) r6, .v (.int .i64 0)])))))) := by kernel_rfl
noncomputable def l_iClashesOf (r : ((List (Nat → Int)) × Int)) : List A := [.lst (.one (.fa 2 .i64)) r.1, .v (.int .i64 r.2)]
theorem s_iClashesOf_ok (a0 : (List Int)) (a1 : (List Int)) (a2 : Int) (a3 : Int) (v : ((List (Nat → Int)) × Int)) (h : s_iClashesOf a0 a1 a2 a3 = some v) : (Option.bind (s_iValidRow a0) fun r1 => (cond r1 (Option.bind (s_iValidRow a1) fun r2 => (cond (s_iisSeam a2) (cond ((s_icodeOf r2 (s_iwithin a3 0 2000)) != 0) (some [.lst (.one (.fa 2 .i64)) [], .v (.int .i64 (s_icodeOf r2 (s_iwithin a3 0 2000)))]) (Option.bind (s_iclashes a0 a1 a2 a3) fun r3 => (some [.lst (.one (.fa 2 .i64)) r3, .v (.int .i64 0)]))) (cond ((s_icodeOf r2 false) != 0) (some [.lst (.one (.fa 2 .i64)) [], .v (.int .i64 (s_icodeOf r2 false))]) (Option.bind (s_iclashes a0 a1 a2 a3) fun r4 => (some [.lst (.one (.fa 2 .i64)) r4, .v (.int .i64 0)]))))) (cond (s_iisSeam a2) (cond ((s_icodeOf false (s_iwithin a3 0 2000)) != 0) (some [.lst (.one (.fa 2 .i64)) [], .v (.int .i64 (s_icodeOf false (s_iwithin a3 0 2000)))]) (Option.bind (s_iclashes a0 a1 a2 a3) fun r5 => (some [.lst (.one (.fa 2 .i64)) r5, .v (.int .i64 0)]))) (cond ((s_icodeOf false false) != 0) (some [.lst (.one (.fa 2 .i64)) [], .v (.int .i64 (s_icodeOf false false))]) (Option.bind (s_iclashes a0 a1 a2 a3) fun r6 => (some [.lst (.one (.fa 2 .i64)) r6, .v (.int .i64 0)])))))) = some (l_iClashesOf v) := by
  have e : (Option.bind (s_iValidRow a0) fun r1 => (cond r1 (Option.bind (s_iValidRow a1) fun r2 => (cond (s_iisSeam a2) (cond ((s_icodeOf r2 (s_iwithin a3 0 2000)) != 0) (some [.lst (.one (.fa 2 .i64)) [], .v (.int .i64 (s_icodeOf r2 (s_iwithin a3 0 2000)))]) (Option.bind (s_iclashes a0 a1 a2 a3) fun r3 => (some [.lst (.one (.fa 2 .i64)) r3, .v (.int .i64 0)]))) (cond ((s_icodeOf r2 false) != 0) (some [.lst (.one (.fa 2 .i64)) [], .v (.int .i64 (s_icodeOf r2 false))]) (Option.bind (s_iclashes a0 a1 a2 a3) fun r4 => (some [.lst (.one (.fa 2 .i64)) r4, .v (.int .i64 0)]))))) (cond (s_iisSeam a2) (cond ((s_icodeOf false (s_iwithin a3 0 2000)) != 0) (some [.lst (.one (.fa 2 .i64)) [], .v (.int .i64 (s_icodeOf false (s_iwithin a3 0 2000)))]) (Option.bind (s_iclashes a0 a1 a2 a3) fun r5 => (some [.lst (.one (.fa 2 .i64)) r5, .v (.int .i64 0)]))) (cond ((s_icodeOf false false) != 0) (some [.lst (.one (.fa 2 .i64)) [], .v (.int .i64 (s_icodeOf false false))]) (Option.bind (s_iclashes a0 a1 a2 a3) fun r6 => (some [.lst (.one (.fa 2 .i64)) r6, .v (.int .i64 0)])))))) = Option.map l_iClashesOf (s_iClashesOf a0 a1 a2 a3) := by
    unfold s_iClashesOf
    exact (bind_app fun _ => (cond_app (Option.map l_iClashesOf) (bind_app fun _ => (cond_app (Option.map l_iClashesOf) (cond_app (Option.map l_iClashesOf) rfl (bind_app fun _ => rfl)) (cond_app (Option.map l_iClashesOf) rfl (bind_app fun _ => rfl)))) (cond_app (Option.map l_iClashesOf) (cond_app (Option.map l_iClashesOf) rfl (bind_app fun _ => rfl)) (cond_app (Option.map l_iClashesOf) rfl (bind_app fun _ => rfl)))))
  rw [e, h]; rfl
noncomputable def c_iClashesOf : List A → ACall
  | [.lst (.one (.i .i16)) a0, .lst (.one (.i .i16)) a1, .v (.int .i64 a2), .v (.int .i64 a3)] => ⟨((List (Nat → Int)) × Int), s_iClashesOf a0 a1 a2 a3, fun r => .tup [.lst (.one (.fa 2 .i64)) r.1, .v (.int .i64 r.2)]⟩
  | _ => ACall.fail
theorem f_iClashesOf_sound : Sound Tryd.prog 22 c_iClashesOf := by
  refine sound_good f_iClashesOf_ctx f_iClashesOf_LV 4 Tryd.func22 (c := f_iClashesOf_c) (by kernel_rfl) (rv := f_iClashesOf_rv) (by kernel_rfl) (by kernel_rfl) (by kernel_rfl) (by kernel_rfl) fun rs => ?_
  unfold c_iClashesOf
  split
  · rename_i a0 a1 a2 a3; intro v h; exact ⟨rfl, l_iClashesOf v, rfl, (f_iClashesOf_top a0 a1 a2 a3 _).trans (s_iClashesOf_ok a0 a1 a2 a3 v h)⟩
  · intro v h; cases h

/-! ### function 63: loop.example/g01322/spec.l05Both -/
noncomputable def f_sl05Both_c : Code := match Tryd.f63.body with | some c => c | none => .skip
noncomputable def f_sl05Both_X : Ctx := ⟨TT, phiOf [(41, c_sl05Ok), (88, c_sl05Seam)], noPsi, noXi⟩
def f_sl05Both_LV : List (Nat × Keep) := []
def f_sl05Both_rv : List ResultVar := [.tmp 6]
noncomputable def f_sl05Both_L (r : List A) : Nat → AS → Option (List A) := L f_sl05Both_X (cnOf f_sl05Both_LV) f_sl05Both_c (K0 TT f_sl05Both_rv) r
theorem f_sl05Both_ctx : CtxOK Tryd.prog f_sl05Both_X := ctx_of tab mix ⟨⟨Tryd.call41, f_sl05Ok_sound⟩, ⟨Tryd.call88, f_sl05Seam_sound⟩, trivial⟩
noncomputable def s_sl05Both (a0 : (List Int)) (a1 : (List Int)) (a2 : Int) : Option Int := (Option.bind (s_sl05Ok a0) fun r1 => (cond (!r1) (some 1) (Option.bind (s_sl05Ok a1) fun r2 => (cond (!r2) (some 1) (cond (!(s_sl05Seam a2)) (some 2) (some 0))))))
theorem f_sl05Both_top (a0 : (List Int)) (a1 : (List Int)) (a2 : Int) (r : List A) : ev f_sl05Both_X (lpc (cnOf f_sl05Both_LV) (f_sl05Both_L r)) f_sl05Both_c (K0 TT f_sl05Both_rv) (enter [.lst (.one (.i .i16)) a0, .lst (.one (.i .i16)) a1, .v (.int .i64 a2)]) = (Option.bind (s_sl05Ok a0) fun r1 => (cond (!r1) (some [.v (.int .i64 1)]) (Option.bind (s_sl05Ok a1) fun r2 => (cond (!r2) (some [.v (.int .i64 1)]) (cond (!(s_sl05Seam a2)) (some [.v (.int .i64 2)]) (some [.v (.int .i64 0)])))))) := by kernel_rfl
noncomputable def l_sl05Both (r : Int) : List A := [.v (.int .i64 r)]
theorem s_sl05Both_ok (a0 : (List Int)) (a1 : (List Int)) (a2 : Int) (v : Int) (h : s_sl05Both a0 a1 a2 = some v) : (Option.bind (s_sl05Ok a0) fun r1 => (cond (!r1) (some [.v (.int .i64 1)]) (Option.bind (s_sl05Ok a1) fun r2 => (cond (!r2) (some [.v (.int .i64 1)]) (cond (!(s_sl05Seam a2)) (some [.v (.int .i64 2)]) (some [.v (.int .i64 0)])))))) = some (l_sl05Both v) := by
  have e : (Option.bind (s_sl05Ok a0) fun r1 => (cond (!r1) (some [.v (.int .i64 1)]) (Option.bind (s_sl05Ok a1) fun r2 => (cond (!r2) (some [.v (.int .i64 1)]) (cond (!(s_sl05Seam a2)) (some [.v (.int .i64 2)]) (some [.v (.int .i64 0)])))))) = Option.map l_sl05Both (s_sl05Both a0 a1 a2) := by
    unfold s_sl05Both
    exact (bind_app fun _ => (cond_app (Option.map l_sl05Both) rfl (bind_app fun _ => (cond_app (Option.map l_sl05Both) rfl (cond_app (Option.map l_sl05Both) rfl rfl)))))
  rw [e, h]; rfl
noncomputable def c_sl05Both : List A → ACall
  | [.lst (.one (.i .i16)) a0, .lst (.one (.i .i16)) a1, .v (.int .i64 a2)] => ⟨Int, s_sl05Both a0 a1 a2, fun r => .one (.v (.int .i64 r))⟩
  | _ => ACall.fail
theorem f_sl05Both_sound : Sound Tryd.prog 63 c_sl05Both := by
  refine sound_good f_sl05Both_ctx f_sl05Both_LV 3 Tryd.func63 (c := f_sl05Both_c) (by kernel_rfl) (rv := f_sl05Both_rv) (by kernel_rfl) (by kernel_rfl) (by kernel_rfl) (by kernel_rfl) fun rs => ?_
  unfold c_sl05Both
  split
  · rename_i a0 a1 a2; intro v h; exact ⟨rfl, l_sl05Both v, rfl, (f_sl05Both_top a0 a1 a2 _).trans (s_sl05Both_ok a0 a1 a2 v h)⟩
  · intro v h; cases h

/-! ### function 56: loop.example/g01322/spec.l05Near -/
noncomputable def f_sl05Near_c : Code := match Tryd.f56.body with | some c => c | none => .skip
noncomputable def f_sl05Near_X : Ctx := ⟨TT, phiOf [(57, c_sl00In)], noPsi, noXi⟩
def f_sl05Near_LV : List (Nat × Keep) := []
def f_sl05Near_rv : List ResultVar := [.tmp 2]
noncomputable def f_sl05Near_L (r : List A) : Nat → AS → Option (List A) := L f_sl05Near_X (cnOf f_sl05Near_LV) f_sl05Near_c (K0 TT f_sl05Near_rv) r
theorem f_sl05Near_ctx : CtxOK Tryd.prog f_sl05Near_X := ctx_of tab mix ⟨⟨Tryd.call57, f_sl00In_sound⟩, trivial⟩
noncomputable def s_sl05Near (a0 : Int) : Bool := (s_sl00In a0 0 2000)
theorem f_sl05Near_top (a0 : Int) (r : List A) : ev f_sl05Near_X (lpc (cnOf f_sl05Near_LV) (f_sl05Near_L r)) f_sl05Near_c (K0 TT f_sl05Near_rv) (enter [.v (.int .i64 a0)]) = (some [.v (.bool (s_sl00In a0 0 2000))]) := by kernel_rfl
noncomputable def l_sl05Near (r : Bool) : List A := [.v (.bool r)]
theorem s_sl05Near_ok (a0 : Int) : (some [.v (.bool (s_sl00In a0 0 2000))]) = some (l_sl05Near (s_sl05Near a0)) := by
  unfold s_sl05Near
  exact rfl
noncomputable def c_sl05Near : List A → ACall
  | [.v (.int .i64 a0)] => ⟨Bool, some (s_sl05Near a0), fun r => .one (.v (.bool r))⟩
  | _ => ACall.fail
theorem f_sl05Near_sound : Sound Tryd.prog 56 c_sl05Near := by
  refine sound_good f_sl05Near_ctx f_sl05Near_LV 1 Tryd.func56 (c := f_sl05Near_c) (by kernel_rfl) (rv := f_sl05Near_rv) (by kernel_rfl) (by kernel_rfl) (by kernel_rfl) (by kernel_rfl) fun rs => ?_
  unfold c_sl05Near
  split
  · rename_i a0; intro v h; cases h; exact ⟨rfl, l_sl05Near (s_sl05Near a0), rfl, (f_sl05Near_top a0 _).trans (s_sl05Near_ok a0)⟩
  · intro v h; cases h

/-! ### function 66: loop.example/g01322/spec.l05Joints -/
noncomputable def f_sl05Joints_c : Code := match Tryd.f66.body with | some c => c | none => .skip
noncomputable def f_sl05Joints_X : Ctx := ⟨TT, phiOf [], noPsi, noXi⟩
def f_sl05Joints_LV : List (Nat × Keep) := [(4, ([0, 1, 5, 6, 7], [], []))]
def f_sl05Joints_rv : List ResultVar := [.tmp 4]
noncomputable def f_sl05Joints_L (r : List A) : Nat → AS → Option (List A) := L f_sl05Joints_X (cnOf f_sl05Joints_LV) f_sl05Joints_c (K0 TT f_sl05Joints_rv) r
theorem f_sl05Joints_ctx : CtxOK Tryd.prog f_sl05Joints_X := ctx_of tab mix trivial
noncomputable def f_sl05Joints_s4 (x0 : Int) (x1 : Int) (x2 : Int) (x3 : (List Int)) (x4 : (List (Int × Int))) : AS := ⟨[(0, .a (.sl 0)), (1, .a (.v (.int .i64 x0))), (5, .a (.sl 1)), (6, .a (.v (.int .i64 x1))), (7, .a (.v (.int .i64 x2)))], [(0, some ⟨false, .arr (.one (.i .i16)) x3⟩), (1, some ⟨true, .arr (.st [(.i .i16), (.i .i16)]) x4⟩)], 2⟩
noncomputable def l_sl05Joints (r : (List (Int × Int))) : List A := [.lst (.st [(.i .i16), (.i .i16)]) r]
theorem f_sl05Joints_step4 (x0 : Int) (x1 : Int) (x2 : Int) (x3 : (List Int)) (x4 : (List (Int × Int))) (r : List A) (h : (cond (decide ((IntKind.wrap .i64 (x2 + 1)) < ((List.length x3 : Nat) : Int))) (cond (inB x2 (List.length x3)) (cond (fits ((List.length (x4 : List (Int × Int)) + List.length ([((IntKind.wrap .i16 (IntKind.wrap .i64 (x1 + (IntKind.wrap .i64 (List.getD x3 (Int.toNat x2) 0))))), (IntKind.wrap .i16 (IntKind.wrap .i64 ((IntKind.wrap .i64 (x1 + (IntKind.wrap .i64 (List.getD x3 (Int.toNat x2) 0)))) + x0))))] : List (Int × Int))) * 4)) (f_sl05Joints_L r 4 (f_sl05Joints_s4 x0 (IntKind.wrap .i64 ((IntKind.wrap .i64 (x1 + (IntKind.wrap .i64 (List.getD x3 (Int.toNat x2) 0)))) + x0)) (IntKind.wrap .i64 (x2 + 1)) x3 (x4 ++ [((IntKind.wrap .i16 (IntKind.wrap .i64 (x1 + (IntKind.wrap .i64 (List.getD x3 (Int.toNat x2) 0))))), (IntKind.wrap .i16 (IntKind.wrap .i64 ((IntKind.wrap .i64 (x1 + (IntKind.wrap .i64 (List.getD x3 (Int.toNat x2) 0)))) + x0))))]))) none) none) (some [.lst (.st [(.i .i16), (.i .i16)]) x4])) = some r) : f_sl05Joints_L r 4 (f_sl05Joints_s4 x0 x1 x2 x3 x4) = some r :=
  step_of' h (by kernel_rfl)
noncomputable def f_sl05Joints_n4 (x0 : Int) (x1 : Int) (x2 : Int) (x3 : (List Int)) (x4 : (List (Int × Int))) : Option ((Int × Int × Int × (List Int) × (List (Int × Int))) ⊕ (List (Int × Int))) := (cond (decide ((IntKind.wrap .i64 (x2 + 1)) < ((List.length x3 : Nat) : Int))) (cond (inB x2 (List.length x3)) (cond (fits ((List.length (x4 : List (Int × Int)) + List.length ([((IntKind.wrap .i16 (IntKind.wrap .i64 (x1 + (IntKind.wrap .i64 (List.getD x3 (Int.toNat x2) 0))))), (IntKind.wrap .i16 (IntKind.wrap .i64 ((IntKind.wrap .i64 (x1 + (IntKind.wrap .i64 (List.getD x3 (Int.toNat x2) 0)))) + x0))))] : List (Int × Int))) * 4)) (some (Sum.inl (x0, (IntKind.wrap .i64 ((IntKind.wrap .i64 (x1 + (IntKind.wrap .i64 (List.getD x3 (Int.toNat x2) 0)))) + x0)), (IntKind.wrap .i64 (x2 + 1)), x3, (x4 ++ [((IntKind.wrap .i16 (IntKind.wrap .i64 (x1 + (IntKind.wrap .i64 (List.getD x3 (Int.toNat x2) 0))))), (IntKind.wrap .i16 (IntKind.wrap .i64 ((IntKind.wrap .i64 (x1 + (IntKind.wrap .i64 (List.getD x3 (Int.toNat x2) 0)))) + x0))))])))) none) none) (some (Sum.inr x4)))
noncomputable def f_sl05Joints_run4 (x : (Int × Int × Int × (List Int) × (List (Int × Int)))) : Option (List (Int × Int)) := iter (fun x => f_sl05Joints_n4 x.1 x.2.1 x.2.2.1 x.2.2.2.1 x.2.2.2.2) FU x
noncomputable def f_sl05Joints_G4 (r : List A) (x : (Int × Int × Int × (List Int) × (List (Int × Int)))) : Prop := f_sl05Joints_L r 4 (f_sl05Joints_s4 x.1 x.2.1 x.2.2.1 x.2.2.2.1 x.2.2.2.2) = some r
noncomputable def f_sl05Joints_S4 (r : List A) : (List (Int × Int)) → Prop := fun v => r = l_sl05Joints v
theorem f_sl05Joints_go4 (r : List A) : ∀ x, sem (f_sl05Joints_S4 r) (f_sl05Joints_run4 x) → f_sl05Joints_G4 r x :=
  fun x => iter_sound (step := fun x => f_sl05Joints_n4 x.1 x.2.1 x.2.2.1 x.2.2.2.1 x.2.2.2.2) (fun x h => by
    unfold f_sl05Joints_n4 at h
    exact f_sl05Joints_step4 x.1 x.2.1 x.2.2.1 x.2.2.2.1 x.2.2.2.2 r ((sem_cond h (fun h => (sem_cond h (fun h => (sem_cond h (fun h => sem_got h fun q => q) (fun h => sem_none h))) (fun h => sem_none h))) (fun h => sem_got h fun q => some_eq q)))) FU x
noncomputable def s_sl05Joints (a0 : (List Int)) (a1 : Int) : Option (List (Int × Int)) := (f_sl05Joints_run4 (a1, 0, 0, a0, []))
theorem f_sl05Joints_top (a0 : (List Int)) (a1 : Int) (r : List A) : ev f_sl05Joints_X (lpc (cnOf f_sl05Joints_LV) (f_sl05Joints_L r)) f_sl05Joints_c (K0 TT f_sl05Joints_rv) (enter [.lst (.one (.i .i16)) a0, .v (.int .i64 a1)]) = (f_sl05Joints_L r 4 (f_sl05Joints_s4 a1 0 0 a0 [])) := by kernel_rfl
theorem s_sl05Joints_ok (a0 : (List Int)) (a1 : Int) (v : (List (Int × Int))) (h : s_sl05Joints a0 a1 = some v) : (f_sl05Joints_L (l_sl05Joints v) 4 (f_sl05Joints_s4 a1 0 0 a0 [])) = some (l_sl05Joints v) := by
  unfold s_sl05Joints at h
  have go : ∀ r, sem (fun v => r = l_sl05Joints v) ((f_sl05Joints_run4 (a1, 0, 0, a0, []))) → (f_sl05Joints_L r 4 (f_sl05Joints_s4 a1 0 0 a0 [])) = some r := fun r h => f_sl05Joints_go4 r _ h
  exact go (l_sl05Joints v) ⟨v, h, rfl⟩
noncomputable def c_sl05Joints : List A → ACall
  | [.lst (.one (.i .i16)) a0, .v (.int .i64 a1)] => ⟨(List (Int × Int)), s_sl05Joints a0 a1, fun r => .one (.lst (.st [(.i .i16), (.i .i16)]) r)⟩
  | _ => ACall.fail
theorem f_sl05Joints_sound : Sound Tryd.prog 66 c_sl05Joints := by
  refine sound_good f_sl05Joints_ctx f_sl05Joints_LV 2 Tryd.func66 (c := f_sl05Joints_c) (by kernel_rfl) (rv := f_sl05Joints_rv) (by kernel_rfl) (by kernel_rfl) (by kernel_rfl) (by kernel_rfl) fun rs => ?_
  unfold c_sl05Joints
  split
  · rename_i a0 a1; intro v h; exact ⟨rfl, l_sl05Joints v, rfl, (f_sl05Joints_top a0 a1 _).trans (s_sl05Joints_ok a0 a1 v h)⟩
  · intro v h; cases h

/-! ### function 90: loop.example/g01322/spec.l00Max -/
noncomputable def f_sl00Max_c : Code := match Tryd.f90.body with | some c => c | none => .skip
noncomputable def f_sl00Max_X : Ctx := ⟨TT, phiOf [], noPsi, noXi⟩
def f_sl00Max_LV : List (Nat × Keep) := []
def f_sl00Max_rv : List ResultVar := [.tmp 4]
noncomputable def f_sl00Max_L (r : List A) : Nat → AS → Option (List A) := L f_sl00Max_X (cnOf f_sl00Max_LV) f_sl00Max_c (K0 TT f_sl00Max_rv) r
theorem f_sl00Max_ctx : CtxOK Tryd.prog f_sl00Max_X := ctx_of tab mix trivial
noncomputable def s_sl00Max (a0 : Int) (a1 : Int) : Int := (cond (decide (a0 > a1)) a0 a1)
theorem f_sl00Max_top (a0 : Int) (a1 : Int) (r : List A) : ev f_sl00Max_X (lpc (cnOf f_sl00Max_LV) (f_sl00Max_L r)) f_sl00Max_c (K0 TT f_sl00Max_rv) (enter [.v (.int .i64 a0), .v (.int .i64 a1)]) = (cond (decide (a0 > a1)) (some [.v (.int .i64 a0)]) (some [.v (.int .i64 a1)])) := by kernel_rfl
noncomputable def l_sl00Max (r : Int) : List A := [.v (.int .i64 r)]
theorem s_sl00Max_ok (a0 : Int) (a1 : Int) : (cond (decide (a0 > a1)) (some [.v (.int .i64 a0)]) (some [.v (.int .i64 a1)])) = some (l_sl00Max (s_sl00Max a0 a1)) := by
  unfold s_sl00Max
  exact (cond_app (fun x => some (l_sl00Max x)) rfl rfl)
noncomputable def c_sl00Max : List A → ACall
  | [.v (.int .i64 a0), .v (.int .i64 a1)] => ⟨Int, some (s_sl00Max a0 a1), fun r => .one (.v (.int .i64 r))⟩
  | _ => ACall.fail
theorem f_sl00Max_sound : Sound Tryd.prog 90 c_sl00Max := by
  refine sound_good f_sl00Max_ctx f_sl00Max_LV 2 Tryd.func90 (c := f_sl00Max_c) (by kernel_rfl) (rv := f_sl00Max_rv) (by kernel_rfl) (by kernel_rfl) (by kernel_rfl) (by kernel_rfl) fun rs => ?_
  unfold c_sl00Max
  split
  · rename_i a0 a1; intro v h; cases h; exact ⟨rfl, l_sl00Max (s_sl00Max a0 a1), rfl, (f_sl00Max_top a0 a1 _).trans (s_sl00Max_ok a0 a1)⟩
  · intro v h; cases h

/-! ### function 68: loop.example/g01322/spec.l00Min -/
noncomputable def f_sl00Min_c : Code := match Tryd.f68.body with | some c => c | none => .skip
noncomputable def f_sl00Min_X : Ctx := ⟨TT, phiOf [], noPsi, noXi⟩
def f_sl00Min_LV : List (Nat × Keep) := []
def f_sl00Min_rv : List ResultVar := [.tmp 4]
noncomputable def f_sl00Min_L (r : List A) : Nat → AS → Option (List A) := L f_sl00Min_X (cnOf f_sl00Min_LV) f_sl00Min_c (K0 TT f_sl00Min_rv) r
theorem f_sl00Min_ctx : CtxOK Tryd.prog f_sl00Min_X := ctx_of tab mix trivial
noncomputable def s_sl00Min (a0 : Int) (a1 : Int) : Int := (cond (decide (a0 < a1)) a0 a1)
theorem f_sl00Min_top (a0 : Int) (a1 : Int) (r : List A) : ev f_sl00Min_X (lpc (cnOf f_sl00Min_LV) (f_sl00Min_L r)) f_sl00Min_c (K0 TT f_sl00Min_rv) (enter [.v (.int .i64 a0), .v (.int .i64 a1)]) = (cond (decide (a0 < a1)) (some [.v (.int .i64 a0)]) (some [.v (.int .i64 a1)])) := by kernel_rfl
noncomputable def l_sl00Min (r : Int) : List A := [.v (.int .i64 r)]
theorem s_sl00Min_ok (a0 : Int) (a1 : Int) : (cond (decide (a0 < a1)) (some [.v (.int .i64 a0)]) (some [.v (.int .i64 a1)])) = some (l_sl00Min (s_sl00Min a0 a1)) := by
  unfold s_sl00Min
  exact (cond_app (fun x => some (l_sl00Min x)) rfl rfl)
noncomputable def c_sl00Min : List A → ACall
  | [.v (.int .i64 a0), .v (.int .i64 a1)] => ⟨Int, some (s_sl00Min a0 a1), fun r => .one (.v (.int .i64 r))⟩
  | _ => ACall.fail
theorem f_sl00Min_sound : Sound Tryd.prog 68 c_sl00Min := by
  refine sound_good f_sl00Min_ctx f_sl00Min_LV 2 Tryd.func68 (c := f_sl00Min_c) (by kernel_rfl) (rv := f_sl00Min_rv) (by kernel_rfl) (by kernel_rfl) (by kernel_rfl) (by kernel_rfl) fun rs => ?_
  unfold c_sl00Min
  split
  · rename_i a0 a1; intro v h; cases h; exact ⟨rfl, l_sl00Min (s_sl00Min a0 a1), rfl, (f_sl00Min_top a0 a1 _).trans (s_sl00Min_ok a0 a1)⟩
  · intro v h; cases h

/-! ### function 67: loop.example/g01322/spec.l05Apart -/
noncomputable def f_sl05Apart_c : Code := match Tryd.f67.body with | some c => c | none => .skip
noncomputable def f_sl05Apart_X : Ctx := ⟨TT, phiOf [(68, c_sl00Min), (90, c_sl00Max)], noPsi, noXi⟩
def f_sl05Apart_LV : List (Nat × Keep) := []
def f_sl05Apart_rv : List ResultVar := [.tmp 4]
noncomputable def f_sl05Apart_L (r : List A) : Nat → AS → Option (List A) := L f_sl05Apart_X (cnOf f_sl05Apart_LV) f_sl05Apart_c (K0 TT f_sl05Apart_rv) r
theorem f_sl05Apart_ctx : CtxOK Tryd.prog f_sl05Apart_X := ctx_of tab mix ⟨⟨Tryd.call68, f_sl00Min_sound⟩, ⟨Tryd.call90, f_sl00Max_sound⟩, trivial⟩
noncomputable def s_sl05Apart (a0 : Int) (a1 : Int) (a2 : Int) (a3 : Int) : Int := (IntKind.wrap .i64 ((s_sl00Max (IntKind.wrap .i64 a0) (IntKind.wrap .i64 a2)) - (s_sl00Min (IntKind.wrap .i64 a1) (IntKind.wrap .i64 a3))))
theorem f_sl05Apart_top (a0 : Int) (a1 : Int) (a2 : Int) (a3 : Int) (r : List A) : ev f_sl05Apart_X (lpc (cnOf f_sl05Apart_LV) (f_sl05Apart_L r)) f_sl05Apart_c (K0 TT f_sl05Apart_rv) (enter [.rc [.v (.int .i16 a0), .v (.int .i16 a1)], .rc [.v (.int .i16 a2), .v (.int .i16 a3)]]) = (some [.v (.int .i64 (IntKind.wrap .i64 ((s_sl00Max (IntKind.wrap .i64 a0) (IntKind.wrap .i64 a2)) - (s_sl00Min (IntKind.wrap .i64 a1) (IntKind.wrap .i64 a3)))))]) := by kernel_rfl
noncomputable def l_sl05Apart (r : Int) : List A := [.v (.int .i64 r)]
theorem s_sl05Apart_ok (a0 : Int) (a1 : Int) (a2 : Int) (a3 : Int) : (some [.v (.int .i64 (IntKind.wrap .i64 ((s_sl00Max (IntKind.wrap .i64 a0) (IntKind.wrap .i64 a2)) - (s_sl00Min (IntKind.wrap .i64 a1) (IntKind.wrap .i64 a3)))))]) = some (l_sl05Apart (s_sl05Apart a0 a1 a2 a3)) := by
  unfold s_sl05Apart
  exact rfl
noncomputable def c_sl05Apart : List A → ACall
  | [.rc [.v (.int .i16 a0), .v (.int .i16 a1)], .rc [.v (.int .i16 a2), .v (.int .i16 a3)]] => ⟨Int, some (s_sl05Apart a0 a1 a2 a3), fun r => .one (.v (.int .i64 r))⟩
  | _ => ACall.fail
theorem f_sl05Apart_sound : Sound Tryd.prog 67 c_sl05Apart := by
  refine sound_good f_sl05Apart_ctx f_sl05Apart_LV 2 Tryd.func67 (c := f_sl05Apart_c) (by kernel_rfl) (rv := f_sl05Apart_rv) (by kernel_rfl) (by kernel_rfl) (by kernel_rfl) (by kernel_rfl) fun rs => ?_
  unfold c_sl05Apart
  split
  · rename_i a0 a1 a2 a3; intro v h; cases h; exact ⟨rfl, l_sl05Apart (s_sl05Apart a0 a1 a2 a3), rfl, (f_sl05Apart_top a0 a1 a2 a3 _).trans (s_sl05Apart_ok a0 a1 a2 a3)⟩
  · intro v h; cases h

/-! ### function 58: loop.example/g01322/spec.l05Clashes -/
noncomputable def f_sl05Clashes_c : Code := match Tryd.f58.body with | some c => c | none => .skip
noncomputable def f_sl05Clashes_X : Ctx := ⟨TT, phiOf [(66, c_sl05Joints), (67, c_sl05Apart)], noPsi, noXi⟩
def f_sl05Clashes_LV : List (Nat × Keep) := [(5, ([3, 9, 10, 11, 12], [], [])), (8, ([3, 9, 10, 11, 12, 13], [], []))]
def f_sl05Clashes_rv : List ResultVar := [.tmp 8]
noncomputable def f_sl05Clashes_L (r : List A) : Nat → AS → Option (List A) := L f_sl05Clashes_X (cnOf f_sl05Clashes_LV) f_sl05Clashes_c (K0 TT f_sl05Clashes_rv) r
theorem f_sl05Clashes_ctx : CtxOK Tryd.prog f_sl05Clashes_X := ctx_of tab mix ⟨⟨Tryd.call66, f_sl05Joints_sound⟩, ⟨Tryd.call67, f_sl05Apart_sound⟩, trivial⟩
noncomputable def f_sl05Clashes_s5 (x0 : Int) (x1 : Int) (x2 : (List (Int × Int))) (x3 : (List (Int × Int))) (x4 : (List (Nat → Int))) : AS := ⟨[(3, .a (.v (.int .i64 x0))), (9, .a (.sl 0)), (10, .a (.sl 1)), (11, .a (.sl 2)), (12, .a (.v (.int .i64 x1)))], [(0, some ⟨true, .arr (.st [(.i .i16), (.i .i16)]) x2⟩), (1, some ⟨true, .arr (.st [(.i .i16), (.i .i16)]) x3⟩), (2, some ⟨true, .arr (.one (.fa 2 .i64)) x4⟩)], 3⟩
noncomputable def f_sl05Clashes_s8 (x0 : Int) (x1 : Int) (x2 : Int) (x3 : (List (Int × Int))) (x4 : (List (Int × Int))) (x5 : (List (Nat → Int))) : AS := ⟨[(3, .a (.v (.int .i64 x0))), (9, .a (.sl 0)), (10, .a (.sl 1)), (11, .a (.sl 2)), (12, .a (.v (.int .i64 x1))), (13, .a (.v (.int .i64 x2)))], [(0, some ⟨true, .arr (.st [(.i .i16), (.i .i16)]) x3⟩), (1, some ⟨true, .arr (.st [(.i .i16), (.i .i16)]) x4⟩), (2, some ⟨true, .arr (.one (.fa 2 .i64)) x5⟩)], 3⟩
noncomputable def l_sl05Clashes (r : (List (Nat → Int))) : List A := [.lst (.one (.fa 2 .i64)) r]
theorem f_sl05Clashes_step8 (x0 : Int) (x1 : Int) (x2 : Int) (x3 : (List (Int × Int))) (x4 : (List (Int × Int))) (x5 : (List (Nat → Int))) (r : List A) (h : (cond (decide (x2 < ((List.length x4 : Nat) : Int))) (cond (inB x1 (List.length x3)) (cond (inB x2 (List.length x4)) (cond (decide ((s_sl05Apart (List.getD x3 (Int.toNat x1) ((0, 0) : (Int × Int))).1 (List.getD x3 (Int.toNat x1) ((0, 0) : (Int × Int))).2 (List.getD x4 (Int.toNat x2) ((0, 0) : (Int × Int))).1 (List.getD x4 (Int.toNat x2) ((0, 0) : (Int × Int))).2) < x0)) (cond (fits ((List.length (x5 : List (Nat → Int)) + List.length ([(upd (upd zF 0 x1) 1 x2)] : List (Nat → Int))) * 16)) (f_sl05Clashes_L r 8 (f_sl05Clashes_s8 x0 x1 (IntKind.wrap .i64 (x2 + 1)) x3 x4 (x5 ++ [(upd (upd zF 0 x1) 1 x2)]))) none) (f_sl05Clashes_L r 8 (f_sl05Clashes_s8 x0 x1 (IntKind.wrap .i64 (x2 + 1)) x3 x4 x5))) none) none) (f_sl05Clashes_L r 5 (f_sl05Clashes_s5 x0 (IntKind.wrap .i64 (x1 + 1)) x3 x4 x5))) = some r) : f_sl05Clashes_L r 8 (f_sl05Clashes_s8 x0 x1 x2 x3 x4 x5) = some r :=
  step_of' h (by kernel_rfl)
noncomputable def f_sl05Clashes_n8 (x0 : Int) (x1 : Int) (x2 : Int) (x3 : (List (Int × Int))) (x4 : (List (Int × Int))) (x5 : (List (Nat → Int))) : Option ((Int × Int × Int × (List (Int × Int)) × (List (Int × Int)) × (List (Nat → Int))) ⊕ ((Int × Int × (List (Int × Int)) × (List (Int × Int)) × (List (Nat → Int))) ⊕ (List (Nat → Int)))) := (cond (decide (x2 < ((List.length x4 : Nat) : Int))) (cond (inB x1 (List.length x3)) (cond (inB x2 (List.length x4)) (cond (decide ((s_sl05Apart (List.getD x3 (Int.toNat x1) ((0, 0) : (Int × Int))).1 (List.getD x3 (Int.toNat x1) ((0, 0) : (Int × Int))).2 (List.getD x4 (Int.toNat x2) ((0, 0) : (Int × Int))).1 (List.getD x4 (Int.toNat x2) ((0, 0) : (Int × Int))).2) < x0)) (cond (fits ((List.length (x5 : List (Nat → Int)) + List.length ([(upd (upd zF 0 x1) 1 x2)] : List (Nat → Int))) * 16)) (some (Sum.inl (x0, x1, (IntKind.wrap .i64 (x2 + 1)), x3, x4, (x5 ++ [(upd (upd zF 0 x1) 1 x2)])))) none) (some (Sum.inl (x0, x1, (IntKind.wrap .i64 (x2 + 1)), x3, x4, x5)))) none) none) (some (Sum.inr (Sum.inl (x0, (IntKind.wrap .i64 (x1 + 1)), x3, x4, x5)))))
noncomputable def f_sl05Clashes_run8 (x : (Int × Int × Int × (List (Int × Int)) × (List (Int × Int)) × (List (Nat → Int)))) : Option ((Int × Int × (List (Int × Int)) × (List (Int × Int)) × (List (Nat → Int))) ⊕ (List (Nat → Int))) := iter (fun x => f_sl05Clashes_n8 x.1 x.2.1 x.2.2.1 x.2.2.2.1 x.2.2.2.2.1 x.2.2.2.2.2) FU x
noncomputable def f_sl05Clashes_G8 (r : List A) (x : (Int × Int × Int × (List (Int × Int)) × (List (Int × Int)) × (List (Nat → Int)))) : Prop := f_sl05Clashes_L r 8 (f_sl05Clashes_s8 x.1 x.2.1 x.2.2.1 x.2.2.2.1 x.2.2.2.2.1 x.2.2.2.2.2) = some r
theorem f_sl05Clashes_step5 (x0 : Int) (x1 : Int) (x2 : (List (Int × Int))) (x3 : (List (Int × Int))) (x4 : (List (Nat → Int))) (r : List A) (h : (cond (decide (x1 < ((List.length x2 : Nat) : Int))) (f_sl05Clashes_L r 8 (f_sl05Clashes_s8 x0 x1 0 x2 x3 x4)) (some [.lst (.one (.fa 2 .i64)) x4])) = some r) : f_sl05Clashes_L r 5 (f_sl05Clashes_s5 x0 x1 x2 x3 x4) = some r :=
  step_of' h (by kernel_rfl)
noncomputable def f_sl05Clashes_n5 (x0 : Int) (x1 : Int) (x2 : (List (Int × Int))) (x3 : (List (Int × Int))) (x4 : (List (Nat → Int))) : Option ((Int × Int × (List (Int × Int)) × (List (Int × Int)) × (List (Nat → Int))) ⊕ (List (Nat → Int))) := (cond (decide (x1 < ((List.length x2 : Nat) : Int))) (f_sl05Clashes_run8 (x0, x1, 0, x2, x3, x4)) (some (Sum.inr x4)))
noncomputable def f_sl05Clashes_run5 (x : (Int × Int × (List (Int × Int)) × (List (Int × Int)) × (List (Nat → Int)))) : Option (List (Nat → Int)) := iter (fun x => f_sl05Clashes_n5 x.1 x.2.1 x.2.2.1 x.2.2.2.1 x.2.2.2.2) FU x
noncomputable def f_sl05Clashes_G5 (r : List A) (x : (Int × Int × (List (Int × Int)) × (List (Int × Int)) × (List (Nat → Int)))) : Prop := f_sl05Clashes_L r 5 (f_sl05Clashes_s5 x.1 x.2.1 x.2.2.1 x.2.2.2.1 x.2.2.2.2) = some r
noncomputable def f_sl05Clashes_S5 (r : List A) : (List (Nat → Int)) → Prop := fun v => r = l_sl05Clashes v
noncomputable def f_sl05Clashes_S8 (r : List A) : ((Int × Int × (List (Int × Int)) × (List (Int × Int)) × (List (Nat → Int))) ⊕ (List (Nat → Int))) → Prop := goesOn (f_sl05Clashes_G5 r) (f_sl05Clashes_S5 r)
theorem f_sl05Clashes_go8 (r : List A) : ∀ x, sem (f_sl05Clashes_S8 r) (f_sl05Clashes_run8 x) → f_sl05Clashes_G8 r x :=
  fun x => iter_sound (step := fun x => f_sl05Clashes_n8 x.1 x.2.1 x.2.2.1 x.2.2.2.1 x.2.2.2.2.1 x.2.2.2.2.2) (fun x h => by
    unfold f_sl05Clashes_n8 at h
    exact f_sl05Clashes_step8 x.1 x.2.1 x.2.2.1 x.2.2.2.1 x.2.2.2.2.1 x.2.2.2.2.2 r ((sem_cond h (fun h => (sem_cond h (fun h => (sem_cond h (fun h => (sem_cond h (fun h => (sem_cond h (fun h => sem_got h fun q => q) (fun h => sem_none h))) (fun h => sem_got h fun q => q))) (fun h => sem_none h))) (fun h => sem_none h))) (fun h => sem_got h fun q => q)))) FU x
theorem f_sl05Clashes_go5 (r : List A) : ∀ x, sem (f_sl05Clashes_S5 r) (f_sl05Clashes_run5 x) → f_sl05Clashes_G5 r x :=
  fun x => iter_sound (step := fun x => f_sl05Clashes_n5 x.1 x.2.1 x.2.2.1 x.2.2.2.1 x.2.2.2.2) (fun x h => by
    unfold f_sl05Clashes_n5 at h
    exact f_sl05Clashes_step5 x.1 x.2.1 x.2.2.1 x.2.2.2.1 x.2.2.2.2 r ((sem_cond h (fun h => f_sl05Clashes_go8 r _ h) (fun h => sem_got h fun q => some_eq q)))) FU x
noncomputable def s_sl05Clashes (a0 : (List Int)) (a1 : (List Int)) (a2 : Int) (a3 : Int) : Option (List (Nat → Int)) := (Option.bind (s_sl05Joints a0 a2) fun r1 => (Option.bind (s_sl05Joints a1 a2) fun r2 => (f_sl05Clashes_run5 (a3, 0, r1, r2, []))))
theorem f_sl05Clashes_top (a0 : (List Int)) (a1 : (List Int)) (a2 : Int) (a3 : Int) (r : List A) : ev f_sl05Clashes_X (lpc (cnOf f_sl05Clashes_LV) (f_sl05Clashes_L r)) f_sl05Clashes_c (K0 TT f_sl05Clashes_rv) (enter [.lst (.one (.i .i16)) a0, .lst (.one (.i .i16)) a1, .v (.int .i64 a2), .v (.int .i64 a3)]) = (Option.bind (s_sl05Joints a0 a2) fun r1 => (Option.bind (s_sl05Joints a1 a2) fun r2 => (f_sl05Clashes_L r 5 (f_sl05Clashes_s5 a3 0 r1 r2 [])))) := by kernel_rfl
theorem s_sl05Clashes_ok (a0 : (List Int)) (a1 : (List Int)) (a2 : Int) (a3 : Int) (v : (List (Nat → Int))) (h : s_sl05Clashes a0 a1 a2 a3 = some v) : (Option.bind (s_sl05Joints a0 a2) fun r1 => (Option.bind (s_sl05Joints a1 a2) fun r2 => (f_sl05Clashes_L (l_sl05Clashes v) 5 (f_sl05Clashes_s5 a3 0 r1 r2 [])))) = some (l_sl05Clashes v) := by
  unfold s_sl05Clashes at h
  have go : ∀ r, sem (fun v => r = l_sl05Clashes v) ((Option.bind (s_sl05Joints a0 a2) fun r1 => (Option.bind (s_sl05Joints a1 a2) fun r2 => (f_sl05Clashes_run5 (a3, 0, r1, r2, []))))) → (Option.bind (s_sl05Joints a0 a2) fun r1 => (Option.bind (s_sl05Joints a1 a2) fun r2 => (f_sl05Clashes_L r 5 (f_sl05Clashes_s5 a3 0 r1 r2 [])))) = some r := fun r h => (sem_bind h fun r1 h => (sem_bind h fun r2 h => f_sl05Clashes_go5 r _ h))
  exact go (l_sl05Clashes v) ⟨v, h, rfl⟩
noncomputable def c_sl05Clashes : List A → ACall
  | [.lst (.one (.i .i16)) a0, .lst (.one (.i .i16)) a1, .v (.int .i64 a2), .v (.int .i64 a3)] => ⟨(List (Nat → Int)), s_sl05Clashes a0 a1 a2 a3, fun r => .one (.lst (.one (.fa 2 .i64)) r)⟩
  | _ => ACall.fail
theorem f_sl05Clashes_sound : Sound Tryd.prog 58 c_sl05Clashes := by
  refine sound_good f_sl05Clashes_ctx f_sl05Clashes_LV 4 Tryd.func58 (c := f_sl05Clashes_c) (by kernel_rfl) (rv := f_sl05Clashes_rv) (by kernel_rfl) (by kernel_rfl) (by kernel_rfl) (by kernel_rfl) fun rs => ?_
  unfold c_sl05Clashes
  split
  · rename_i a0 a1 a2 a3; intro v h; exact ⟨rfl, l_sl05Clashes v, rfl, (f_sl05Clashes_top a0 a1 a2 a3 _).trans (s_sl05Clashes_ok a0 a1 a2 a3 v h)⟩
  · intro v h; cases h

/-! ### function 23: loop.example/g01322/spec.ClashesOf -/
noncomputable def f_sClashesOf_c : Code := match Tryd.f23.body with | some c => c | none => .skip
noncomputable def f_sClashesOf_X : Ctx := ⟨TT, phiOf [(56, c_sl05Near), (58, c_sl05Clashes), (63, c_sl05Both)], noPsi, noXi⟩
def f_sClashesOf_LV : List (Nat × Keep) := []
def f_sClashesOf_rv : List ResultVar := [.tmp 8, .tmp 9]
noncomputable def f_sClashesOf_L (r : List A) : Nat → AS → Option (List A) := L f_sClashesOf_X (cnOf f_sClashesOf_LV) f_sClashesOf_c (K0 TT f_sClashesOf_rv) r
theorem f_sClashesOf_ctx : CtxOK Tryd.prog f_sClashesOf_X := ctx_of tab mix ⟨⟨Tryd.call56, f_sl05Near_sound⟩, ⟨Tryd.call58, f_sl05Clashes_sound⟩, ⟨Tryd.call63, f_sl05Both_sound⟩, trivial⟩
noncomputable def s_sClashesOf (a0 : (List Int)) (a1 : (List Int)) (a2 : Int) (a3 : Int) : Option ((List (Nat → Int)) × Int) := (Option.bind (s_sl05Both a0 a1 a2) fun r1 => (cond (r1 == 0) (cond (!(s_sl05Near a3)) (cond (2 != 0) (some ([], 2)) (Option.bind (s_sl05Clashes a0 a1 a2 a3) fun r2 => (some (r2, 0)))) (cond (r1 != 0) (some ([], r1)) (Option.bind (s_sl05Clashes a0 a1 a2 a3) fun r3 => (some (r3, 0))))) (cond (r1 != 0) (some ([], r1)) (Option.bind (s_sl05Clashes a0 a1 a2 a3) fun r4 => (some (r4, 0))))))
theorem f_sClashesOf_top (a0 : (List Int)) (a1 : (List Int)) (a2 : Int) (a3 : Int) (r : List A) : ev f_sClashesOf_X (lpc (cnOf f_sClashesOf_LV) (f_sClashesOf_L r)) f_sClashesOf_c (K0 TT f_sClashesOf_rv) (enter [.lst (.one (.i .i16)) a0, .lst (.one (.i .i16)) a1, .v (.int .i64 a2), .v (.int .i64 a3)]) = (Option.bind (s_sl05Both a0 a1 a2) fun r1 => (cond (r1 == 0) (cond (!(s_sl05Near a3)) (cond (2 != 0) (some [.lst (.one (.fa 2 .i64)) [], .v (.int .i64 2)]) (Option.bind (s_sl05Clashes a0 a1 a2 a3) fun r2 => (some [.lst (.one (.fa 2 .i64)) r2, .v (.int .i64 0)]))) (cond (r1 != 0) (some [.lst (.one (.fa 2 .i64)) [], .v (.int .i64 r1)]) (Option.bind (s_sl05Clashes a0 a1 a2 a3) fun r3 => (some [.lst (.one (.fa 2 .i64)) r3, .v (.int .i64 0)])))) (cond (r1 != 0) (some [.lst (.one (.fa 2 .i64)) [], .v (.int .i64 r1)]) (Option.bind (s_sl05Clashes a0 a1 a2 a3) fun r4 => (some [.lst (.one (.fa 2 .i64)) r4, .v (.int .i64 0)]))))) := by kernel_rfl
noncomputable def l_sClashesOf (r : ((List (Nat → Int)) × Int)) : List A := [.lst (.one (.fa 2 .i64)) r.1, .v (.int .i64 r.2)]
theorem s_sClashesOf_ok (a0 : (List Int)) (a1 : (List Int)) (a2 : Int) (a3 : Int) (v : ((List (Nat → Int)) × Int)) (h : s_sClashesOf a0 a1 a2 a3 = some v) : (Option.bind (s_sl05Both a0 a1 a2) fun r1 => (cond (r1 == 0) (cond (!(s_sl05Near a3)) (cond (2 != 0) (some [.lst (.one (.fa 2 .i64)) [], .v (.int .i64 2)]) (Option.bind (s_sl05Clashes a0 a1 a2 a3) fun r2 => (some [.lst (.one (.fa 2 .i64)) r2, .v (.int .i64 0)]))) (cond (r1 != 0) (some [.lst (.one (.fa 2 .i64)) [], .v (.int .i64 r1)]) (Option.bind (s_sl05Clashes a0 a1 a2 a3) fun r3 => (some [.lst (.one (.fa 2 .i64)) r3, .v (.int .i64 0)])))) (cond (r1 != 0) (some [.lst (.one (.fa 2 .i64)) [], .v (.int .i64 r1)]) (Option.bind (s_sl05Clashes a0 a1 a2 a3) fun r4 => (some [.lst (.one (.fa 2 .i64)) r4, .v (.int .i64 0)]))))) = some (l_sClashesOf v) := by
  have e : (Option.bind (s_sl05Both a0 a1 a2) fun r1 => (cond (r1 == 0) (cond (!(s_sl05Near a3)) (cond (2 != 0) (some [.lst (.one (.fa 2 .i64)) [], .v (.int .i64 2)]) (Option.bind (s_sl05Clashes a0 a1 a2 a3) fun r2 => (some [.lst (.one (.fa 2 .i64)) r2, .v (.int .i64 0)]))) (cond (r1 != 0) (some [.lst (.one (.fa 2 .i64)) [], .v (.int .i64 r1)]) (Option.bind (s_sl05Clashes a0 a1 a2 a3) fun r3 => (some [.lst (.one (.fa 2 .i64)) r3, .v (.int .i64 0)])))) (cond (r1 != 0) (some [.lst (.one (.fa 2 .i64)) [], .v (.int .i64 r1)]) (Option.bind (s_sl05Clashes a0 a1 a2 a3) fun r4 => (some [.lst (.one (.fa 2 .i64)) r4, .v (.int .i64 0)]))))) = Option.map l_sClashesOf (s_sClashesOf a0 a1 a2 a3) := by
    unfold s_sClashesOf
    exact (bind_app fun _ => (cond_app (Option.map l_sClashesOf) (cond_app (Option.map l_sClashesOf) (cond_app (Option.map l_sClashesOf) rfl (bind_app fun _ => rfl)) (cond_app (Option.map l_sClashesOf) rfl (bind_app fun _ => rfl))) (cond_app (Option.map l_sClashesOf) rfl (bind_app fun _ => rfl))))
  rw [e, h]; rfl
noncomputable def c_sClashesOf : List A → ACall
  | [.lst (.one (.i .i16)) a0, .lst (.one (.i .i16)) a1, .v (.int .i64 a2), .v (.int .i64 a3)] => ⟨((List (Nat → Int)) × Int), s_sClashesOf a0 a1 a2 a3, fun r => .tup [.lst (.one (.fa 2 .i64)) r.1, .v (.int .i64 r.2)]⟩
  | _ => ACall.fail
theorem f_sClashesOf_sound : Sound Tryd.prog 23 c_sClashesOf := by
  refine sound_good f_sClashesOf_ctx f_sClashesOf_LV 4 Tryd.func23 (c := f_sClashesOf_c) (by kernel_rfl) (rv := f_sClashesOf_rv) (by kernel_rfl) (by kernel_rfl) (by kernel_rfl) (by kernel_rfl) fun rs => ?_
  unfold c_sClashesOf
  split
  · rename_i a0 a1 a2 a3; intro v h; exact ⟨rfl, l_sClashesOf v, rfl, (f_sClashesOf_top a0 a1 a2 a3 _).trans (s_sClashesOf_ok a0 a1 a2 a3 v h)⟩
  · intro v h; cases h

/-! ### function 24: loop.example/g01322/impl.LeastApart -/
noncomputable def f_iLeastApart_c : Code := match Tryd.f24.body with | some c => c | none => .skip
noncomputable def f_iLeastApart_X : Ctx := ⟨TT, phiOf [(44, c_iValidRow), (46, c_iisSeam), (52, c_icodeOf), (64, c_iRow_joints), (65, c_iapartOf)], noPsi, noXi⟩
def f_iLeastApart_LV : List (Nat × Keep) := [(6, ([1, 2, 9, 10, 30, 31, 32], [], [])), (9, ([1, 2, 9, 10, 12, 30, 31, 32, 38, 39, 40], [], []))]
def f_iLeastApart_rv : List ResultVar := [.tmp 6, .tmp 7]
noncomputable def f_iLeastApart_L (r : List A) : Nat → AS → Option (List A) := L f_iLeastApart_X (cnOf f_iLeastApart_LV) f_iLeastApart_c (K0 TT f_iLeastApart_rv) r
theorem f_iLeastApart_ctx : CtxOK Tryd.prog f_iLeastApart_X := ctx_of tab mix ⟨⟨Tryd.call44, f_iValidRow_sound⟩, ⟨Tryd.call46, f_iisSeam_sound⟩, ⟨Tryd.call52, f_icodeOf_sound⟩, ⟨Tryd.call64, f_iRow_joints_sound⟩, ⟨Tryd.call65, f_iapartOf_sound⟩, trivial⟩
noncomputable def f_iLeastApart_s6 (x0 : Int) (x1 : Int) (x2 : Bool) (x3 : Int) (x4 : Int) (x5 : (List Int)) (x6 : (List (Int × Int))) : AS := ⟨[(1, .a (.sl 0)), (2, .a (.v (.int .i64 x0))), (9, .a (.v (.int .i64 x1))), (10, .a (.v (.bool x2))), (30, .a (.sl 1)), (31, .a (.v (.int .i64 x3))), (32, .a (.v (.int .i64 x4)))], [(0, some ⟨false, .arr (.one (.i .i16)) x5⟩), (1, some ⟨true, .arr (.st [(.i .i16), (.i .i16)]) x6⟩)], 2⟩
noncomputable def f_iLeastApart_s9 (x0 : Int) (x1 : Int) (x2 : Bool) (x3 : Int) (x4 : Int) (x5 : Int) (x6 : Int) (x7 : (List Int)) (x8 : Int) (x9 : Int) (x10 : (List (Int × Int))) (x11 : (List (Int × Int))) : AS := ⟨[(1, .a (.sl 0)), (2, .a (.v (.int .i64 x0))), (9, .a (.v (.int .i64 x1))), (10, .a (.v (.bool x2))), (12, .a (.ptr 1 [] (0))), (30, .a (.sl 2)), (31, .a (.v (.int .i64 x3))), (32, .a (.v (.int .i64 x4))), (38, .a (.sl 3)), (39, .a (.v (.int .i64 x5))), (40, .a (.v (.int .i64 x6)))], [(0, some ⟨false, .arr (.one (.i .i16)) x7⟩), (1, some ⟨true, .box (.rc [.v (.int .i16 x8), .v (.int .i16 x9)])⟩), (2, some ⟨true, .arr (.st [(.i .i16), (.i .i16)]) x10⟩), (3, some ⟨true, .arr (.st [(.i .i16), (.i .i16)]) x11⟩)], 4⟩
noncomputable def l_iLeastApart (r : (Int × Int)) : List A := [.v (.int .i64 r.1), .v (.int .i64 r.2)]
theorem f_iLeastApart_step9 (x0 : Int) (x1 : Int) (x2 : Bool) (x3 : Int) (x4 : Int) (x5 : Int) (x6 : Int) (x7 : (List Int)) (x8 : Int) (x9 : Int) (x10 : (List (Int × Int))) (x11 : (List (Int × Int))) (r : List A) (h : (cond (decide (x6 < x5)) (cond (inB x6 (List.length x11)) (cond (!x2) (f_iLeastApart_L r 9 (f_iLeastApart_s9 x0 (s_iapartOf x8 x9 (List.getD x11 (Int.toNat x6) ((0, 0) : (Int × Int))).1 (List.getD x11 (Int.toNat x6) ((0, 0) : (Int × Int))).2) true x3 x4 x5 (IntKind.wrap .i64 (x6 + 1)) x7 x8 x9 x10 x11)) (cond (decide ((s_iapartOf x8 x9 (List.getD x11 (Int.toNat x6) ((0, 0) : (Int × Int))).1 (List.getD x11 (Int.toNat x6) ((0, 0) : (Int × Int))).2) < x1)) (f_iLeastApart_L r 9 (f_iLeastApart_s9 x0 (s_iapartOf x8 x9 (List.getD x11 (Int.toNat x6) ((0, 0) : (Int × Int))).1 (List.getD x11 (Int.toNat x6) ((0, 0) : (Int × Int))).2) true x3 x4 x5 (IntKind.wrap .i64 (x6 + 1)) x7 x8 x9 x10 x11)) (f_iLeastApart_L r 9 (f_iLeastApart_s9 x0 x1 x2 x3 x4 x5 (IntKind.wrap .i64 (x6 + 1)) x7 x8 x9 x10 x11)))) none) (f_iLeastApart_L r 6 (f_iLeastApart_s6 x0 x1 x2 x3 (IntKind.wrap .i64 (x4 + 1)) x7 x10))) = some r) : f_iLeastApart_L r 9 (f_iLeastApart_s9 x0 x1 x2 x3 x4 x5 x6 x7 x8 x9 x10 x11) = some r :=
  step_of' h (by kernel_rfl)
noncomputable def f_iLeastApart_n9 (x0 : Int) (x1 : Int) (x2 : Bool) (x3 : Int) (x4 : Int) (x5 : Int) (x6 : Int) (x7 : (List Int)) (x8 : Int) (x9 : Int) (x10 : (List (Int × Int))) (x11 : (List (Int × Int))) : Option ((Int × Int × Bool × Int × Int × Int × Int × (List Int) × Int × Int × (List (Int × Int)) × (List (Int × Int))) ⊕ ((Int × Int × Bool × Int × Int × (List Int) × (List (Int × Int))) ⊕ (Int × Int))) := (cond (decide (x6 < x5)) (cond (inB x6 (List.length x11)) (cond (!x2) (some (Sum.inl (x0, (s_iapartOf x8 x9 (List.getD x11 (Int.toNat x6) ((0, 0) : (Int × Int))).1 (List.getD x11 (Int.toNat x6) ((0, 0) : (Int × Int))).2), true, x3, x4, x5, (IntKind.wrap .i64 (x6 + 1)), x7, x8, x9, x10, x11))) (cond (decide ((s_iapartOf x8 x9 (List.getD x11 (Int.toNat x6) ((0, 0) : (Int × Int))).1 (List.getD x11 (Int.toNat x6) ((0, 0) : (Int × Int))).2) < x1)) (some (Sum.inl (x0, (s_iapartOf x8 x9 (List.getD x11 (Int.toNat x6) ((0, 0) : (Int × Int))).1 (List.getD x11 (Int.toNat x6) ((0, 0) : (Int × Int))).2), true, x3, x4, x5, (IntKind.wrap .i64 (x6 + 1)), x7, x8, x9, x10, x11))) (some (Sum.inl (x0, x1, x2, x3, x4, x5, (IntKind.wrap .i64 (x6 + 1)), x7, x8, x9, x10, x11))))) none) (some (Sum.inr (Sum.inl (x0, x1, x2, x3, (IntKind.wrap .i64 (x4 + 1)), x7, x10)))))
noncomputable def f_iLeastApart_run9 (x : (Int × Int × Bool × Int × Int × Int × Int × (List Int) × Int × Int × (List (Int × Int)) × (List (Int × Int)))) : Option ((Int × Int × Bool × Int × Int × (List Int) × (List (Int × Int))) ⊕ (Int × Int)) := iter (fun x => f_iLeastApart_n9 x.1 x.2.1 x.2.2.1 x.2.2.2.1 x.2.2.2.2.1 x.2.2.2.2.2.1 x.2.2.2.2.2.2.1 x.2.2.2.2.2.2.2.1 x.2.2.2.2.2.2.2.2.1 x.2.2.2.2.2.2.2.2.2.1 x.2.2.2.2.2.2.2.2.2.2.1 x.2.2.2.2.2.2.2.2.2.2.2) FU x
noncomputable def f_iLeastApart_G9 (r : List A) (x : (Int × Int × Bool × Int × Int × Int × Int × (List Int) × Int × Int × (List (Int × Int)) × (List (Int × Int)))) : Prop := f_iLeastApart_L r 9 (f_iLeastApart_s9 x.1 x.2.1 x.2.2.1 x.2.2.2.1 x.2.2.2.2.1 x.2.2.2.2.2.1 x.2.2.2.2.2.2.1 x.2.2.2.2.2.2.2.1 x.2.2.2.2.2.2.2.2.1 x.2.2.2.2.2.2.2.2.2.1 x.2.2.2.2.2.2.2.2.2.2.1 x.2.2.2.2.2.2.2.2.2.2.2) = some r
theorem f_iLeastApart_step6 (x0 : Int) (x1 : Int) (x2 : Bool) (x3 : Int) (x4 : Int) (x5 : (List Int)) (x6 : (List (Int × Int))) (r : List A) (h : (cond (decide (x4 < x3)) (cond (inB x4 (List.length x6)) (Option.bind (s_iRow_joints x5 x0) fun r5 => (f_iLeastApart_L r 9 (f_iLeastApart_s9 x0 x1 x2 x3 x4 ((List.length r5 : Nat) : Int) 0 x5 (List.getD x6 (Int.toNat x4) ((0, 0) : (Int × Int))).1 (List.getD x6 (Int.toNat x4) ((0, 0) : (Int × Int))).2 x6 r5))) none) (cond (!x2) (some [.v (.int .i64 0), .v (.int .i64 6)]) (some [.v (.int .i64 x1), .v (.int .i64 0)]))) = some r) : f_iLeastApart_L r 6 (f_iLeastApart_s6 x0 x1 x2 x3 x4 x5 x6) = some r :=
  step_of' h (by kernel_rfl)
noncomputable def f_iLeastApart_n6 (x0 : Int) (x1 : Int) (x2 : Bool) (x3 : Int) (x4 : Int) (x5 : (List Int)) (x6 : (List (Int × Int))) : Option ((Int × Int × Bool × Int × Int × (List Int) × (List (Int × Int))) ⊕ (Int × Int)) := (cond (decide (x4 < x3)) (cond (inB x4 (List.length x6)) (Option.bind (s_iRow_joints x5 x0) fun r5 => (f_iLeastApart_run9 (x0, x1, x2, x3, x4, ((List.length r5 : Nat) : Int), 0, x5, (List.getD x6 (Int.toNat x4) ((0, 0) : (Int × Int))).1, (List.getD x6 (Int.toNat x4) ((0, 0) : (Int × Int))).2, x6, r5))) none) (cond (!x2) (some (Sum.inr (0, 6))) (some (Sum.inr (x1, 0)))))
noncomputable def f_iLeastApart_run6 (x : (Int × Int × Bool × Int × Int × (List Int) × (List (Int × Int)))) : Option (Int × Int) := iter (fun x => f_iLeastApart_n6 x.1 x.2.1 x.2.2.1 x.2.2.2.1 x.2.2.2.2.1 x.2.2.2.2.2.1 x.2.2.2.2.2.2) FU x
noncomputable def f_iLeastApart_G6 (r : List A) (x : (Int × Int × Bool × Int × Int × (List Int) × (List (Int × Int)))) : Prop := f_iLeastApart_L r 6 (f_iLeastApart_s6 x.1 x.2.1 x.2.2.1 x.2.2.2.1 x.2.2.2.2.1 x.2.2.2.2.2.1 x.2.2.2.2.2.2) = some r
noncomputable def f_iLeastApart_S6 (r : List A) : (Int × Int) → Prop := fun v => r = l_iLeastApart v
noncomputable def f_iLeastApart_S9 (r : List A) : ((Int × Int × Bool × Int × Int × (List Int) × (List (Int × Int))) ⊕ (Int × Int)) → Prop := goesOn (f_iLeastApart_G6 r) (f_iLeastApart_S6 r)
theorem f_iLeastApart_go9 (r : List A) : ∀ x, sem (f_iLeastApart_S9 r) (f_iLeastApart_run9 x) → f_iLeastApart_G9 r x :=
  fun x => iter_sound (step := fun x => f_iLeastApart_n9 x.1 x.2.1 x.2.2.1 x.2.2.2.1 x.2.2.2.2.1 x.2.2.2.2.2.1 x.2.2.2.2.2.2.1 x.2.2.2.2.2.2.2.1 x.2.2.2.2.2.2.2.2.1 x.2.2.2.2.2.2.2.2.2.1 x.2.2.2.2.2.2.2.2.2.2.1 x.2.2.2.2.2.2.2.2.2.2.2) (fun x h => by
    unfold f_iLeastApart_n9 at h
    exact f_iLeastApart_step9 x.1 x.2.1 x.2.2.1 x.2.2.2.1 x.2.2.2.2.1 x.2.2.2.2.2.1 x.2.2.2.2.2.2.1 x.2.2.2.2.2.2.2.1 x.2.2.2.2.2.2.2.2.1 x.2.2.2.2.2.2.2.2.2.1 x.2.2.2.2.2.2.2.2.2.2.1 x.2.2.2.2.2.2.2.2.2.2.2 r ((sem_cond h (fun h => (sem_cond h (fun h => (sem_cond h (fun h => sem_got h fun q => q) (fun h => (sem_cond h (fun h => sem_got h fun q => q) (fun h => sem_got h fun q => q))))) (fun h => sem_none h))) (fun h => sem_got h fun q => q)))) FU x
theorem f_iLeastApart_go6 (r : List A) : ∀ x, sem (f_iLeastApart_S6 r) (f_iLeastApart_run6 x) → f_iLeastApart_G6 r x :=
  fun x => iter_sound (step := fun x => f_iLeastApart_n6 x.1 x.2.1 x.2.2.1 x.2.2.2.1 x.2.2.2.2.1 x.2.2.2.2.2.1 x.2.2.2.2.2.2) (fun x h => by
    unfold f_iLeastApart_n6 at h
    exact f_iLeastApart_step6 x.1 x.2.1 x.2.2.1 x.2.2.2.1 x.2.2.2.2.1 x.2.2.2.2.2.1 x.2.2.2.2.2.2 r ((sem_cond h (fun h => (sem_cond h (fun h => (sem_bind h fun r5 h => f_iLeastApart_go9 r _ h)) (fun h => sem_none h))) (fun h => (sem_cond h (fun h => sem_got h fun q => some_eq q) (fun h => sem_got h fun q => some_eq q)))))) FU x
noncomputable def s_iLeastApart (a0 : (List Int)) (a1 : (List Int)) (a2 : Int) : Option (Int × Int) := (Option.bind (s_iValidRow a0) fun r1 => (cond r1 (Option.bind (s_iValidRow a1) fun r2 => (cond ((s_icodeOf r2 (s_iisSeam a2)) != 0) (some (0, (s_icodeOf r2 (s_iisSeam a2)))) (Option.bind (s_iRow_joints a0 a2) fun r3 => (f_iLeastApart_run6 (a2, 0, false, ((List.length r3 : Nat) : Int), 0, a1, r3))))) (cond ((s_icodeOf false (s_iisSeam a2)) != 0) (some (0, (s_icodeOf false (s_iisSeam a2)))) (Option.bind (s_iRow_joints a0 a2) fun r4 => (f_iLeastApart_run6 (a2, 0, false, ((List.length r4 : Nat) : Int), 0, a1, r4))))))
theorem f_iLeastApart_top (a0 : (List Int)) (a1 : (List Int)) (a2 : Int) (r : List A) : ev f_iLeastApart_X (lpc (cnOf f_iLeastApart_LV) (f_iLeastApart_L r)) f_iLeastApart_c (K0 TT f_iLeastApart_rv) (enter [.lst (.one (.i .i16)) a0, .lst (.one (.i .i16)) a1, .v (.int .i64 a2)]) = (Option.bind (s_iValidRow a0) fun r1 => (cond r1 (Option.bind (s_iValidRow a1) fun r2 => (cond ((s_icodeOf r2 (s_iisSeam a2)) != 0) (some [.v (.int .i64 0), .v (.int .i64 (s_icodeOf r2 (s_iisSeam a2)))]) (Option.bind (s_iRow_joints a0 a2) fun r3 => (f_iLeastApart_L r 6 (f_iLeastApart_s6 a2 0 false ((List.length r3 : Nat) : Int) 0 a1 r3))))) (cond ((s_icodeOf false (s_iisSeam a2)) != 0) (some [.v (.int .i64 0), .v (.int .i64 (s_icodeOf false (s_iisSeam a2)))]) (Option.bind (s_iRow_joints a0 a2) fun r4 => (f_iLeastApart_L r 6 (f_iLeastApart_s6 a2 0 false ((List.length r4 : Nat) : Int) 0 a1 r4)))))) := by kernel_rfl
theorem s_iLeastApart_ok (a0 : (List Int)) (a1 : (List Int)) (a2 : Int) (v : (Int × Int)) (h : s_iLeastApart a0 a1 a2 = some v) : (Option.bind (s_iValidRow a0) fun r1 => (cond r1 (Option.bind (s_iValidRow a1) fun r2 => (cond ((s_icodeOf r2 (s_iisSeam a2)) != 0) (some [.v (.int .i64 0), .v (.int .i64 (s_icodeOf r2 (s_iisSeam a2)))]) (Option.bind (s_iRow_joints a0 a2) fun r3 => (f_iLeastApart_L (l_iLeastApart v) 6 (f_iLeastApart_s6 a2 0 false ((List.length r3 : Nat) : Int) 0 a1 r3))))) (cond ((s_icodeOf false (s_iisSeam a2)) != 0) (some [.v (.int .i64 0), .v (.int .i64 (s_icodeOf false (s_iisSeam a2)))]) (Option.bind (s_iRow_joints a0 a2) fun r4 => (f_iLeastApart_L (l_iLeastApart v) 6 (f_iLeastApart_s6 a2 0 false ((List.length r4 : Nat) : Int) 0 a1 r4)))))) = some (l_iLeastApart v) := by
  unfold s_iLeastApart at h
  have go : ∀ r, sem (fun v => r = l_iLeastApart v) ((Option.bind (s_iValidRow a0) fun r1 => (cond r1 (Option.bind (s_iValidRow a1) fun r2 => (cond ((s_icodeOf r2 (s_iisSeam a2)) != 0) (some (0, (s_icodeOf r2 (s_iisSeam a2)))) (Option.bind (s_iRow_joints a0 a2) fun r3 => (f_iLeastApart_run6 (a2, 0, false, ((List.length r3 : Nat) : Int), 0, a1, r3))))) (cond ((s_icodeOf false (s_iisSeam a2)) != 0) (some (0, (s_icodeOf false (s_iisSeam a2)))) (Option.bind (s_iRow_joints a0 a2) fun r4 => (f_iLeastApart_run6 (a2, 0, false, ((List.length r4 : Nat) : Int), 0, a1, r4))))))) → (Option.bind (s_iValidRow a0) fun r1 => (cond r1 (Option.bind (s_iValidRow a1) fun r2 => (cond ((s_icodeOf r2 (s_iisSeam a2)) != 0) (some [.v (.int .i64 0), .v (.int .i64 (s_icodeOf r2 (s_iisSeam a2)))]) (Option.bind (s_iRow_joints a0 a2) fun r3 => (f_iLeastApart_L r 6 (f_iLeastApart_s6 a2 0 false ((List.length r3 : Nat) : Int) 0 a1 r3))))) (cond ((s_icodeOf false (s_iisSeam a2)) != 0) (some [.v (.int .i64 0), .v (.int .i64 (s_icodeOf false (s_iisSeam a2)))]) (Option.bind (s_iRow_joints a0 a2) fun r4 => (f_iLeastApart_L r 6 (f_iLeastApart_s6 a2 0 false ((List.length r4 : Nat) : Int) 0 a1 r4)))))) = some r := fun r h => (sem_bind h fun r1 h => (sem_cond h (fun h => (sem_bind h fun r2 h => (sem_cond h (fun h => sem_got h fun q => some_eq q) (fun h => (sem_bind h fun r3 h => f_iLeastApart_go6 r _ h))))) (fun h => (sem_cond h (fun h => sem_got h fun q => some_eq q) (fun h => (sem_bind h fun r4 h => f_iLeastApart_go6 r _ h))))))
  exact go (l_iLeastApart v) ⟨v, h, rfl⟩
noncomputable def c_iLeastApart : List A → ACall
  | [.lst (.one (.i .i16)) a0, .lst (.one (.i .i16)) a1, .v (.int .i64 a2)] => ⟨(Int × Int), s_iLeastApart a0 a1 a2, fun r => .tup [.v (.int .i64 r.1), .v (.int .i64 r.2)]⟩
  | _ => ACall.fail
theorem f_iLeastApart_sound : Sound Tryd.prog 24 c_iLeastApart := by
  refine sound_good f_iLeastApart_ctx f_iLeastApart_LV 3 Tryd.func24 (c := f_iLeastApart_c) (by kernel_rfl) (rv := f_iLeastApart_rv) (by kernel_rfl) (by kernel_rfl) (by kernel_rfl) (by kernel_rfl) fun rs => ?_
  unfold c_iLeastApart
  split
  · rename_i a0 a1 a2; intro v h; exact ⟨rfl, l_iLeastApart v, rfl, (f_iLeastApart_top a0 a1 a2 _).trans (s_iLeastApart_ok a0 a1 a2 v h)⟩
  · intro v h; cases h

/-! ### function 25: loop.example/g01322/spec.LeastApart -/
noncomputable def f_sLeastApart_c : Code := match Tryd.f25.body with | some c => c | none => .skip
noncomputable def f_sLeastApart_X : Ctx := ⟨TT, phiOf [(63, c_sl05Both), (66, c_sl05Joints), (67, c_sl05Apart), (68, c_sl00Min)], noPsi, noXi⟩
def f_sLeastApart_LV : List (Nat × Keep) := [(10, ([9, 10, 11, 12], [], [])), (13, ([9, 10, 11, 12, 13], [], []))]
def f_sLeastApart_rv : List ResultVar := [.tmp 6, .tmp 7]
noncomputable def f_sLeastApart_L (r : List A) : Nat → AS → Option (List A) := L f_sLeastApart_X (cnOf f_sLeastApart_LV) f_sLeastApart_c (K0 TT f_sLeastApart_rv) r
theorem f_sLeastApart_ctx : CtxOK Tryd.prog f_sLeastApart_X := ctx_of tab mix ⟨⟨Tryd.call63, f_sl05Both_sound⟩, ⟨Tryd.call66, f_sl05Joints_sound⟩, ⟨Tryd.call67, f_sl05Apart_sound⟩, ⟨Tryd.call68, f_sl00Min_sound⟩, trivial⟩
noncomputable def f_sLeastApart_s10 (x0 : Int) (x1 : Int) (x2 : (List (Int × Int))) (x3 : (List (Int × Int))) : AS := ⟨[(9, .a (.sl 0)), (10, .a (.sl 1)), (11, .a (.v (.int .i64 x0))), (12, .a (.v (.int .i64 x1)))], [(0, some ⟨true, .arr (.st [(.i .i16), (.i .i16)]) x2⟩), (1, some ⟨true, .arr (.st [(.i .i16), (.i .i16)]) x3⟩)], 2⟩
noncomputable def f_sLeastApart_s13 (x0 : Int) (x1 : Int) (x2 : Int) (x3 : (List (Int × Int))) (x4 : (List (Int × Int))) : AS := ⟨[(9, .a (.sl 0)), (10, .a (.sl 1)), (11, .a (.v (.int .i64 x0))), (12, .a (.v (.int .i64 x1))), (13, .a (.v (.int .i64 x2)))], [(0, some ⟨true, .arr (.st [(.i .i16), (.i .i16)]) x3⟩), (1, some ⟨true, .arr (.st [(.i .i16), (.i .i16)]) x4⟩)], 2⟩
noncomputable def l_sLeastApart (r : (Int × Int)) : List A := [.v (.int .i64 r.1), .v (.int .i64 r.2)]
theorem f_sLeastApart_step13 (x0 : Int) (x1 : Int) (x2 : Int) (x3 : (List (Int × Int))) (x4 : (List (Int × Int))) (r : List A) (h : (cond (decide (x2 < ((List.length x4 : Nat) : Int))) (cond (inB x1 (List.length x3)) (cond (inB x2 (List.length x4)) (f_sLeastApart_L r 13 (f_sLeastApart_s13 (s_sl00Min x0 (s_sl05Apart (List.getD x3 (Int.toNat x1) ((0, 0) : (Int × Int))).1 (List.getD x3 (Int.toNat x1) ((0, 0) : (Int × Int))).2 (List.getD x4 (Int.toNat x2) ((0, 0) : (Int × Int))).1 (List.getD x4 (Int.toNat x2) ((0, 0) : (Int × Int))).2)) x1 (IntKind.wrap .i64 (x2 + 1)) x3 x4)) none) none) (f_sLeastApart_L r 10 (f_sLeastApart_s10 x0 (IntKind.wrap .i64 (x1 + 1)) x3 x4))) = some r) : f_sLeastApart_L r 13 (f_sLeastApart_s13 x0 x1 x2 x3 x4) = some r :=
  step_of' h (by kernel_rfl)
noncomputable def f_sLeastApart_n13 (x0 : Int) (x1 : Int) (x2 : Int) (x3 : (List (Int × Int))) (x4 : (List (Int × Int))) : Option ((Int × Int × Int × (List (Int × Int)) × (List (Int × Int))) ⊕ ((Int × Int × (List (Int × Int)) × (List (Int × Int))) ⊕ (Int × Int))) := (cond (decide (x2 < ((List.length x4 : Nat) : Int))) (cond (inB x1 (List.length x3)) (cond (inB x2 (List.length x4)) (some (Sum.inl ((s_sl00Min x0 (s_sl05Apart (List.getD x3 (Int.toNat x1) ((0, 0) : (Int × Int))).1 (List.getD x3 (Int.toNat x1) ((0, 0) : (Int × Int))).2 (List.getD x4 (Int.toNat x2) ((0, 0) : (Int × Int))).1 (List.getD x4 (Int.toNat x2) ((0, 0) : (Int × Int))).2)), x1, (IntKind.wrap .i64 (x2 + 1)), x3, x4))) none) none) (some (Sum.inr (Sum.inl (x0, (IntKind.wrap .i64 (x1 + 1)), x3, x4)))))
noncomputable def f_sLeastApart_run13 (x : (Int × Int × Int × (List (Int × Int)) × (List (Int × Int)))) : Option ((Int × Int × (List (Int × Int)) × (List (Int × Int))) ⊕ (Int × Int)) := iter (fun x => f_sLeastApart_n13 x.1 x.2.1 x.2.2.1 x.2.2.2.1 x.2.2.2.2) FU x
noncomputable def f_sLeastApart_G13 (r : List A) (x : (Int × Int × Int × (List (Int × Int)) × (List (Int × Int)))) : Prop := f_sLeastApart_L r 13 (f_sLeastApart_s13 x.1 x.2.1 x.2.2.1 x.2.2.2.1 x.2.2.2.2) = some r
theorem f_sLeastApart_step10 (x0 : Int) (x1 : Int) (x2 : (List (Int × Int))) (x3 : (List (Int × Int))) (r : List A) (h : (cond (decide (x1 < ((List.length x2 : Nat) : Int))) (f_sLeastApart_L r 13 (f_sLeastApart_s13 x0 x1 0 x2 x3)) (some [.v (.int .i64 x0), .v (.int .i64 0)])) = some r) : f_sLeastApart_L r 10 (f_sLeastApart_s10 x0 x1 x2 x3) = some r :=
  step_of' h (by kernel_rfl)
noncomputable def f_sLeastApart_n10 (x0 : Int) (x1 : Int) (x2 : (List (Int × Int))) (x3 : (List (Int × Int))) : Option ((Int × Int × (List (Int × Int)) × (List (Int × Int))) ⊕ (Int × Int)) := (cond (decide (x1 < ((List.length x2 : Nat) : Int))) (f_sLeastApart_run13 (x0, x1, 0, x2, x3)) (some (Sum.inr (x0, 0))))
noncomputable def f_sLeastApart_run10 (x : (Int × Int × (List (Int × Int)) × (List (Int × Int)))) : Option (Int × Int) := iter (fun x => f_sLeastApart_n10 x.1 x.2.1 x.2.2.1 x.2.2.2) FU x
noncomputable def f_sLeastApart_G10 (r : List A) (x : (Int × Int × (List (Int × Int)) × (List (Int × Int)))) : Prop := f_sLeastApart_L r 10 (f_sLeastApart_s10 x.1 x.2.1 x.2.2.1 x.2.2.2) = some r
noncomputable def f_sLeastApart_S10 (r : List A) : (Int × Int) → Prop := fun v => r = l_sLeastApart v
noncomputable def f_sLeastApart_S13 (r : List A) : ((Int × Int × (List (Int × Int)) × (List (Int × Int))) ⊕ (Int × Int)) → Prop := goesOn (f_sLeastApart_G10 r) (f_sLeastApart_S10 r)
theorem f_sLeastApart_go13 (r : List A) : ∀ x, sem (f_sLeastApart_S13 r) (f_sLeastApart_run13 x) → f_sLeastApart_G13 r x :=
  fun x => iter_sound (step := fun x => f_sLeastApart_n13 x.1 x.2.1 x.2.2.1 x.2.2.2.1 x.2.2.2.2) (fun x h => by
    unfold f_sLeastApart_n13 at h
    exact f_sLeastApart_step13 x.1 x.2.1 x.2.2.1 x.2.2.2.1 x.2.2.2.2 r ((sem_cond h (fun h => (sem_cond h (fun h => (sem_cond h (fun h => sem_got h fun q => q) (fun h => sem_none h))) (fun h => sem_none h))) (fun h => sem_got h fun q => q)))) FU x
theorem f_sLeastApart_go10 (r : List A) : ∀ x, sem (f_sLeastApart_S10 r) (f_sLeastApart_run10 x) → f_sLeastApart_G10 r x :=
  fun x => iter_sound (step := fun x => f_sLeastApart_n10 x.1 x.2.1 x.2.2.1 x.2.2.2) (fun x h => by
    unfold f_sLeastApart_n10 at h
    exact f_sLeastApart_step10 x.1 x.2.1 x.2.2.1 x.2.2.2 r ((sem_cond h (fun h => f_sLeastApart_go13 r _ h) (fun h => sem_got h fun q => some_eq q)))) FU x
noncomputable def s_sLeastApart (a0 : (List Int)) (a1 : (List Int)) (a2 : Int) : Option (Int × Int) := (Option.bind (s_sl05Both a0 a1 a2) fun r1 => (cond (r1 != 0) (some (0, r1)) (Option.bind (s_sl05Joints a0 a2) fun r2 => (Option.bind (s_sl05Joints a1 a2) fun r3 => (cond (((List.length r2 : Nat) : Int) == 0) (some (0, 6)) (cond (((List.length r3 : Nat) : Int) == 0) (some (0, 6)) (cond (inB 0 (List.length r2)) (cond (inB 0 (List.length r3)) (f_sLeastApart_run10 ((s_sl05Apart (List.getD r2 0 ((0, 0) : (Int × Int))).1 (List.getD r2 0 ((0, 0) : (Int × Int))).2 (List.getD r3 0 ((0, 0) : (Int × Int))).1 (List.getD r3 0 ((0, 0) : (Int × Int))).2), 0, r2, r3)) none) none)))))))
theorem f_sLeastApart_top (a0 : (List Int)) (a1 : (List Int)) (a2 : Int) (r : List A) : ev f_sLeastApart_X (lpc (cnOf f_sLeastApart_LV) (f_sLeastApart_L r)) f_sLeastApart_c (K0 TT f_sLeastApart_rv) (enter [.lst (.one (.i .i16)) a0, .lst (.one (.i .i16)) a1, .v (.int .i64 a2)]) = (Option.bind (s_sl05Both a0 a1 a2) fun r1 => (cond (r1 != 0) (some [.v (.int .i64 0), .v (.int .i64 r1)]) (Option.bind (s_sl05Joints a0 a2) fun r2 => (Option.bind (s_sl05Joints a1 a2) fun r3 => (cond (((List.length r2 : Nat) : Int) == 0) (some [.v (.int .i64 0), .v (.int .i64 6)]) (cond (((List.length r3 : Nat) : Int) == 0) (some [.v (.int .i64 0), .v (.int .i64 6)]) (cond (inB 0 (List.length r2)) (cond (inB 0 (List.length r3)) (f_sLeastApart_L r 10 (f_sLeastApart_s10 (s_sl05Apart (List.getD r2 0 ((0, 0) : (Int × Int))).1 (List.getD r2 0 ((0, 0) : (Int × Int))).2 (List.getD r3 0 ((0, 0) : (Int × Int))).1 (List.getD r3 0 ((0, 0) : (Int × Int))).2) 0 r2 r3)) none) none))))))) := by kernel_rfl
theorem s_sLeastApart_ok (a0 : (List Int)) (a1 : (List Int)) (a2 : Int) (v : (Int × Int)) (h : s_sLeastApart a0 a1 a2 = some v) : (Option.bind (s_sl05Both a0 a1 a2) fun r1 => (cond (r1 != 0) (some [.v (.int .i64 0), .v (.int .i64 r1)]) (Option.bind (s_sl05Joints a0 a2) fun r2 => (Option.bind (s_sl05Joints a1 a2) fun r3 => (cond (((List.length r2 : Nat) : Int) == 0) (some [.v (.int .i64 0), .v (.int .i64 6)]) (cond (((List.length r3 : Nat) : Int) == 0) (some [.v (.int .i64 0), .v (.int .i64 6)]) (cond (inB 0 (List.length r2)) (cond (inB 0 (List.length r3)) (f_sLeastApart_L (l_sLeastApart v) 10 (f_sLeastApart_s10 (s_sl05Apart (List.getD r2 0 ((0, 0) : (Int × Int))).1 (List.getD r2 0 ((0, 0) : (Int × Int))).2 (List.getD r3 0 ((0, 0) : (Int × Int))).1 (List.getD r3 0 ((0, 0) : (Int × Int))).2) 0 r2 r3)) none) none))))))) = some (l_sLeastApart v) := by
  unfold s_sLeastApart at h
  have go : ∀ r, sem (fun v => r = l_sLeastApart v) ((Option.bind (s_sl05Both a0 a1 a2) fun r1 => (cond (r1 != 0) (some (0, r1)) (Option.bind (s_sl05Joints a0 a2) fun r2 => (Option.bind (s_sl05Joints a1 a2) fun r3 => (cond (((List.length r2 : Nat) : Int) == 0) (some (0, 6)) (cond (((List.length r3 : Nat) : Int) == 0) (some (0, 6)) (cond (inB 0 (List.length r2)) (cond (inB 0 (List.length r3)) (f_sLeastApart_run10 ((s_sl05Apart (List.getD r2 0 ((0, 0) : (Int × Int))).1 (List.getD r2 0 ((0, 0) : (Int × Int))).2 (List.getD r3 0 ((0, 0) : (Int × Int))).1 (List.getD r3 0 ((0, 0) : (Int × Int))).2), 0, r2, r3)) none) none)))))))) → (Option.bind (s_sl05Both a0 a1 a2) fun r1 => (cond (r1 != 0) (some [.v (.int .i64 0), .v (.int .i64 r1)]) (Option.bind (s_sl05Joints a0 a2) fun r2 => (Option.bind (s_sl05Joints a1 a2) fun r3 => (cond (((List.length r2 : Nat) : Int) == 0) (some [.v (.int .i64 0), .v (.int .i64 6)]) (cond (((List.length r3 : Nat) : Int) == 0) (some [.v (.int .i64 0), .v (.int .i64 6)]) (cond (inB 0 (List.length r2)) (cond (inB 0 (List.length r3)) (f_sLeastApart_L r 10 (f_sLeastApart_s10 (s_sl05Apart (List.getD r2 0 ((0, 0) : (Int × Int))).1 (List.getD r2 0 ((0, 0) : (Int × Int))).2 (List.getD r3 0 ((0, 0) : (Int × Int))).1 (List.getD r3 0 ((0, 0) : (Int × Int))).2) 0 r2 r3)) none) none))))))) = some r := fun r h => (sem_bind h fun r1 h => (sem_cond h (fun h => sem_got h fun q => some_eq q) (fun h => (sem_bind h fun r2 h => (sem_bind h fun r3 h => (sem_cond h (fun h => sem_got h fun q => some_eq q) (fun h => (sem_cond h (fun h => sem_got h fun q => some_eq q) (fun h => (sem_cond h (fun h => (sem_cond h (fun h => f_sLeastApart_go10 r _ h) (fun h => sem_none h))) (fun h => sem_none h)))))))))))
  exact go (l_sLeastApart v) ⟨v, h, rfl⟩
noncomputable def c_sLeastApart : List A → ACall
  | [.lst (.one (.i .i16)) a0, .lst (.one (.i .i16)) a1, .v (.int .i64 a2)] => ⟨(Int × Int), s_sLeastApart a0 a1 a2, fun r => .tup [.v (.int .i64 r.1), .v (.int .i64 r.2)]⟩
  | _ => ACall.fail
theorem f_sLeastApart_sound : Sound Tryd.prog 25 c_sLeastApart := by
  refine sound_good f_sLeastApart_ctx f_sLeastApart_LV 3 Tryd.func25 (c := f_sLeastApart_c) (by kernel_rfl) (rv := f_sLeastApart_rv) (by kernel_rfl) (by kernel_rfl) (by kernel_rfl) (by kernel_rfl) fun rs => ?_
  unfold c_sLeastApart
  split
  · rename_i a0 a1 a2; intro v h; exact ⟨rfl, l_sLeastApart v, rfl, (f_sLeastApart_top a0 a1 a2 _).trans (s_sLeastApart_ok a0 a1 a2 v h)⟩
  · intro v h; cases h
end Go.RR
