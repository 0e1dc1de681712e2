/- Rows that are staggered. -/
import Derived.Test.YtbmaolhjplapoaaDoorVd
set_option linter.unusedVariables false
set_option linter.unusedSimpArgs false
set_option linter.unusedSectionVars false
set_option maxRecDepth 100000
namespace Go.RR
open Go Go.Proofs

/-! ### function 17: loop.example/g01322/impl.StaggerRows -/
noncomputable def f_iStaggerRows_c : Code := match Tryd.f17.body with | some c => c | none => .skip
noncomputable def f_iStaggerRows_X : Ctx := ⟨TT, phiOf [(45, c_iisLong), (46, c_iisSeam), (47, c_iisWidth), (48, c_ibrick), (54, c_iwithin), (55, c_iclashes)], noPsi, noXi⟩
def f_iStaggerRows_LV : List (Nat × Keep) := [(8, ([0, 1, 2, 3, 14, 56, 57], [], [])), (11, ([0, 1, 2, 3, 14, 15, 16, 56, 57], [], []))]
def f_iStaggerRows_rv : List ResultVar := [.tmp 10, .tmp 11]
noncomputable def f_iStaggerRows_L (r : List A) : Nat → AS → Option (List A) := L f_iStaggerRows_X (cnOf f_iStaggerRows_LV) f_iStaggerRows_c (K0 TT f_iStaggerRows_rv) r
theorem f_iStaggerRows_ctx : CtxOK Tryd.prog f_iStaggerRows_X := ctx_of tab mix ⟨⟨Tryd.call45, f_iisLong_sound⟩, ⟨Tryd.call46, f_iisSeam_sound⟩, ⟨Tryd.call47, f_iisWidth_sound⟩, ⟨Tryd.call48, f_ibrick_sound⟩, ⟨Tryd.call54, f_iwithin_sound⟩, ⟨Tryd.call55, f_iclashes_sound⟩, trivial⟩
noncomputable def f_iStaggerRows_s8 (x0 : Int) (x1 : Int) (x2 : Int) (x3 : Int) (x4 : Int) (x5 : Int) (x6 : (List (List Int))) : AS := ⟨[(0, .a (.v (.int .i64 x0))), (1, .a (.v (.int .i64 x1))), (2, .a (.v (.int .i64 x2))), (3, .a (.v (.int .i64 x3))), (14, .a (.sl 0)), (56, .a (.v (.int .i64 x4))), (57, .a (.v (.int .i64 x5)))], [(0, some ⟨true, .arr (.one (.ls .i16)) x6⟩)], 1⟩
noncomputable def f_iStaggerRows_s11 (x0 : Int) (x1 : Int) (x2 : Int) (x3 : Int) (x4 : Bool) (x5 : Int) (x6 : Int) (x7 : Int) (x8 : (List (List Int))) : AS := ⟨[(0, .a (.v (.int .i64 x0))), (1, .a (.v (.int .i64 x1))), (2, .a (.v (.int .i64 x2))), (3, .a (.v (.int .i64 x3))), (14, .a (.sl 0)), (15, .a (.v (.bool x4))), (16, .a (.v (.int .i64 x5))), (56, .a (.v (.int .i64 x6))), (57, .a (.v (.int .i64 x7)))], [(0, some ⟨true, .arr (.one (.ls .i16)) x8⟩)], 1⟩
noncomputable def l_iStaggerRows (r : ((List (List Int)) × Int)) : List A := [.lst (.one (.ls .i16)) r.1, .v (.int .i64 r.2)]
theorem f_iStaggerRows_step11 (x0 : Int) (x1 : Int) (x2 : Int) (x3 : Int) (x4 : Bool) (x5 : Int) (x6 : Int) (x7 : Int) (x8 : (List (List Int))) (r : List A) (h : (cond (decide (x5 ≥ 1)) (cond (!x4) (Option.bind (s_ibrick x0 x1 x2 x5) fun r3 => (cond r3.2 (cond (inB (IntKind.wrap .i64 (((List.length x8 : Nat) : Int) - 1)) (List.length x8)) (Option.bind (s_iclashes (List.getD x8 (Int.toNat (IntKind.wrap .i64 (((List.length x8 : Nat) : Int) - 1))) ([] : List Int)) (r3.1) x1 x3) fun r4 => (cond (((List.length r4 : Nat) : Int) == 0) (cond (fits ((List.length (x8 : List (List Int)) + List.length ([r3.1] : List (List Int))) * 24)) (f_iStaggerRows_L r 11 (f_iStaggerRows_s11 x0 x1 x2 x3 true (IntKind.wrap .i64 (x5 - 1)) x6 x7 (x8 ++ [r3.1]))) none) (f_iStaggerRows_L r 11 (f_iStaggerRows_s11 x0 x1 x2 x3 x4 (IntKind.wrap .i64 (x5 - 1)) x6 x7 x8)))) none) (f_iStaggerRows_L r 11 (f_iStaggerRows_s11 x0 x1 x2 x3 x4 (IntKind.wrap .i64 (x5 - 1)) x6 x7 x8)))) (cond (!x4) (some [.lst (.one (.ls .i16)) [], .v (.int .i64 6)]) (f_iStaggerRows_L r 8 (f_iStaggerRows_s8 x0 x1 x2 x3 x6 (IntKind.wrap .i64 (x7 + 1)) x8)))) (cond (!x4) (some [.lst (.one (.ls .i16)) [], .v (.int .i64 6)]) (f_iStaggerRows_L r 8 (f_iStaggerRows_s8 x0 x1 x2 x3 x6 (IntKind.wrap .i64 (x7 + 1)) x8)))) = some r) : f_iStaggerRows_L r 11 (f_iStaggerRows_s11 x0 x1 x2 x3 x4 x5 x6 x7 x8) = some r :=
  step_of' h (by kernel_rfl)
noncomputable def f_iStaggerRows_n11 (x0 : Int) (x1 : Int) (x2 : Int) (x3 : Int) (x4 : Bool) (x5 : Int) (x6 : Int) (x7 : Int) (x8 : (List (List Int))) : Option ((Int × Int × Int × Int × Bool × Int × Int × Int × (List (List Int))) ⊕ ((Int × Int × Int × Int × Int × Int × (List (List Int))) ⊕ ((List (List Int)) × Int))) := (cond (decide (x5 ≥ 1)) (cond (!x4) (Option.bind (s_ibrick x0 x1 x2 x5) fun r3 => (cond r3.2 (cond (inB (IntKind.wrap .i64 (((List.length x8 : Nat) : Int) - 1)) (List.length x8)) (Option.bind (s_iclashes (List.getD x8 (Int.toNat (IntKind.wrap .i64 (((List.length x8 : Nat) : Int) - 1))) ([] : List Int)) (r3.1) x1 x3) fun r4 => (cond (((List.length r4 : Nat) : Int) == 0) (cond (fits ((List.length (x8 : List (List Int)) + List.length ([r3.1] : List (List Int))) * 24)) (some (Sum.inl (x0, x1, x2, x3, true, (IntKind.wrap .i64 (x5 - 1)), x6, x7, (x8 ++ [r3.1])))) none) (some (Sum.inl (x0, x1, x2, x3, x4, (IntKind.wrap .i64 (x5 - 1)), x6, x7, x8))))) none) (some (Sum.inl (x0, x1, x2, x3, x4, (IntKind.wrap .i64 (x5 - 1)), x6, x7, x8))))) (cond (!x4) (some (Sum.inr (Sum.inr ([], 6)))) (some (Sum.inr (Sum.inl (x0, x1, x2, x3, x6, (IntKind.wrap .i64 (x7 + 1)), x8)))))) (cond (!x4) (some (Sum.inr (Sum.inr ([], 6)))) (some (Sum.inr (Sum.inl (x0, x1, x2, x3, x6, (IntKind.wrap .i64 (x7 + 1)), x8))))))
noncomputable def f_iStaggerRows_run11 (x : (Int × Int × Int × Int × Bool × Int × Int × Int × (List (List Int)))) : Option ((Int × Int × Int × Int × Int × Int × (List (List Int))) ⊕ ((List (List Int)) × Int)) := iter (fun x => f_iStaggerRows_n11 x.1 x.2.1 x.2.2.1 x.2.2.2.1 x.2.2.2.2.1 x.2.2.2.2.2.1 x.2.2.2.2.2.2.1 x.2.2.2.2.2.2.2.1 x.2.2.2.2.2.2.2.2) FU x
noncomputable def f_iStaggerRows_G11 (r : List A) (x : (Int × Int × Int × Int × Bool × Int × Int × Int × (List (List Int)))) : Prop := f_iStaggerRows_L r 11 (f_iStaggerRows_s11 x.1 x.2.1 x.2.2.1 x.2.2.2.1 x.2.2.2.2.1 x.2.2.2.2.2.1 x.2.2.2.2.2.2.1 x.2.2.2.2.2.2.2.1 x.2.2.2.2.2.2.2.2) = some r
theorem f_iStaggerRows_step8 (x0 : Int) (x1 : Int) (x2 : Int) (x3 : Int) (x4 : Int) (x5 : Int) (x6 : (List (List Int))) (r : List A) (h : (cond (decide (x5 < x4)) (f_iStaggerRows_L r 11 (f_iStaggerRows_s11 x0 x1 x2 x3 false x2 x4 x5 x6)) (some [.lst (.one (.ls .i16)) x6, .v (.int .i64 0)])) = some r) : f_iStaggerRows_L r 8 (f_iStaggerRows_s8 x0 x1 x2 x3 x4 x5 x6) = some r :=
  step_of' h (by kernel_rfl)
noncomputable def f_iStaggerRows_n8 (x0 : Int) (x1 : Int) (x2 : Int) (x3 : Int) (x4 : Int) (x5 : Int) (x6 : (List (List Int))) : Option ((Int × Int × Int × Int × Int × Int × (List (List Int))) ⊕ ((List (List Int)) × Int)) := (cond (decide (x5 < x4)) (f_iStaggerRows_run11 (x0, x1, x2, x3, false, x2, x4, x5, x6)) (some (Sum.inr (x6, 0))))
noncomputable def f_iStaggerRows_run8 (x : (Int × Int × Int × Int × Int × Int × (List (List Int)))) : Option ((List (List Int)) × Int) := iter (fun x => f_iStaggerRows_n8 x.1 x.2.1 x.2.2.1 x.2.2.2.1 x.2.2.2.2.1 x.2.2.2.2.2.1 x.2.2.2.2.2.2) FU x
noncomputable def f_iStaggerRows_G8 (r : List A) (x : (Int × Int × Int × Int × Int × Int × (List (List Int)))) : Prop := f_iStaggerRows_L r 8 (f_iStaggerRows_s8 x.1 x.2.1 x.2.2.1 x.2.2.2.1 x.2.2.2.2.1 x.2.2.2.2.2.1 x.2.2.2.2.2.2) = some r
noncomputable def f_iStaggerRows_S8 (r : List A) : ((List (List Int)) × Int) → Prop := fun v => r = l_iStaggerRows v
noncomputable def f_iStaggerRows_S11 (r : List A) : ((Int × Int × Int × Int × Int × Int × (List (List Int))) ⊕ ((List (List Int)) × Int)) → Prop := goesOn (f_iStaggerRows_G8 r) (f_iStaggerRows_S8 r)
theorem f_iStaggerRows_go11 (r : List A) : ∀ x, sem (f_iStaggerRows_S11 r) (f_iStaggerRows_run11 x) → f_iStaggerRows_G11 r x :=
  fun x => iter_sound (step := fun x => f_iStaggerRows_n11 x.1 x.2.1 x.2.2.1 x.2.2.2.1 x.2.2.2.2.1 x.2.2.2.2.2.1 x.2.2.2.2.2.2.1 x.2.2.2.2.2.2.2.1 x.2.2.2.2.2.2.2.2) (fun x h => by
    unfold f_iStaggerRows_n11 at h
    exact f_iStaggerRows_step11 x.1 x.2.1 x.2.2.1 x.2.2.2.1 x.2.2.2.2.1 x.2.2.2.2.2.1 x.2.2.2.2.2.2.1 x.2.2.2.2.2.2.2.1 x.2.2.2.2.2.2.2.2 r ((sem_cond h (fun h => (sem_cond h (fun h => (sem_bind h fun r3 h => (sem_cond h (fun h => (sem_cond h (fun h => (sem_bind h fun r4 h => (sem_cond h (fun h => (sem_cond h (fun h => sem_got h fun q => q) (fun h => sem_none h))) (fun h => sem_got h fun q => q)))) (fun h => sem_none h))) (fun h => sem_got h fun q => q)))) (fun h => (sem_cond h (fun h => sem_got h fun q => some_eq q) (fun h => sem_got h fun q => q))))) (fun h => (sem_cond h (fun h => sem_got h fun q => some_eq q) (fun h => sem_got h fun q => q)))))) FU x
theorem f_iStaggerRows_go8 (r : List A) : ∀ x, sem (f_iStaggerRows_S8 r) (f_iStaggerRows_run8 x) → f_iStaggerRows_G8 r x :=
  fun x => iter_sound (step := fun x => f_iStaggerRows_n8 x.1 x.2.1 x.2.2.1 x.2.2.2.1 x.2.2.2.2.1 x.2.2.2.2.2.1 x.2.2.2.2.2.2) (fun x h => by
    unfold f_iStaggerRows_n8 at h
    exact f_iStaggerRows_step8 x.1 x.2.1 x.2.2.1 x.2.2.2.1 x.2.2.2.2.1 x.2.2.2.2.2.1 x.2.2.2.2.2.2 r ((sem_cond h (fun h => f_iStaggerRows_go11 r _ h) (fun h => sem_got h fun q => some_eq q)))) FU x
noncomputable def s_iStaggerRows (a0 : Int) (a1 : Int) (a2 : Int) (a3 : Int) (a4 : Int) : Option ((List (List Int)) × Int) := (cond (!(s_iisLong a0)) (some ([], 2)) (cond (!(s_iisSeam a1)) (some ([], 2)) (Option.bind (s_iisWidth [a2]) fun r1 => (cond (!r1) (some ([], 2)) (cond (!(s_iwithin a3 0 2000)) (some ([], 2)) (cond (!(s_iwithin a4 1 20)) (some ([], 2)) (Option.bind (s_ibrick a0 a1 a2 a2) fun r2 => (cond (!r2.2) (some ([], 6)) (f_iStaggerRows_run8 (a0, a1, a2, a3, (IntKind.wrap .i64 (a4 - 1)), 0, [r2.1]))))))))))
theorem f_iStaggerRows_top (a0 : Int) (a1 : Int) (a2 : Int) (a3 : Int) (a4 : Int) (r : List A) : ev f_iStaggerRows_X (lpc (cnOf f_iStaggerRows_LV) (f_iStaggerRows_L r)) f_iStaggerRows_c (K0 TT f_iStaggerRows_rv) (enter [.v (.int .i64 a0), .v (.int .i64 a1), .v (.int .i64 a2), .v (.int .i64 a3), .v (.int .i64 a4)]) = (cond (!(s_iisLong a0)) (some [.lst (.one (.ls .i16)) [], .v (.int .i64 2)]) (cond (!(s_iisSeam a1)) (some [.lst (.one (.ls .i16)) [], .v (.int .i64 2)]) (Option.bind (s_iisWidth [a2]) fun r1 => (cond (!r1) (some [.lst (.one (.ls .i16)) [], .v (.int .i64 2)]) (cond (!(s_iwithin a3 0 2000)) (some [.lst (.one (.ls .i16)) [], .v (.int .i64 2)]) (cond (!(s_iwithin a4 1 20)) (some [.lst (.one (.ls .i16)) [], .v (.int .i64 2)]) (Option.bind (s_ibrick a0 a1 a2 a2) fun r2 => (cond (!r2.2) (some [.lst (.one (.ls .i16)) [], .v (.int .i64 6)]) (f_iStaggerRows_L r 8 (f_iStaggerRows_s8 a0 a1 a2 a3 (IntKind.wrap .i64 (a4 - 1)) 0 [r2.1])))))))))) := by kernel_rfl
theorem s_iStaggerRows_ok (a0 : Int) (a1 : Int) (a2 : Int) (a3 : Int) (a4 : Int) (v : ((List (List Int)) × Int)) (h : s_iStaggerRows a0 a1 a2 a3 a4 = some v) : (cond (!(s_iisLong a0)) (some [.lst (.one (.ls .i16)) [], .v (.int .i64 2)]) (cond (!(s_iisSeam a1)) (some [.lst (.one (.ls .i16)) [], .v (.int .i64 2)]) (Option.bind (s_iisWidth [a2]) fun r1 => (cond (!r1) (some [.lst (.one (.ls .i16)) [], .v (.int .i64 2)]) (cond (!(s_iwithin a3 0 2000)) (some [.lst (.one (.ls .i16)) [], .v (.int .i64 2)]) (cond (!(s_iwithin a4 1 20)) (some [.lst (.one (.ls .i16)) [], .v (.int .i64 2)]) (Option.bind (s_ibrick a0 a1 a2 a2) fun r2 => (cond (!r2.2) (some [.lst (.one (.ls .i16)) [], .v (.int .i64 6)]) (f_iStaggerRows_L (l_iStaggerRows v) 8 (f_iStaggerRows_s8 a0 a1 a2 a3 (IntKind.wrap .i64 (a4 - 1)) 0 [r2.1])))))))))) = some (l_iStaggerRows v) := by
  unfold s_iStaggerRows at h
  have go : ∀ r, sem (fun v => r = l_iStaggerRows v) ((cond (!(s_iisLong a0)) (some ([], 2)) (cond (!(s_iisSeam a1)) (some ([], 2)) (Option.bind (s_iisWidth [a2]) fun r1 => (cond (!r1) (some ([], 2)) (cond (!(s_iwithin a3 0 2000)) (some ([], 2)) (cond (!(s_iwithin a4 1 20)) (some ([], 2)) (Option.bind (s_ibrick a0 a1 a2 a2) fun r2 => (cond (!r2.2) (some ([], 6)) (f_iStaggerRows_run8 (a0, a1, a2, a3, (IntKind.wrap .i64 (a4 - 1)), 0, [r2.1]))))))))))) → (cond (!(s_iisLong a0)) (some [.lst (.one (.ls .i16)) [], .v (.int .i64 2)]) (cond (!(s_iisSeam a1)) (some [.lst (.one (.ls .i16)) [], .v (.int .i64 2)]) (Option.bind (s_iisWidth [a2]) fun r1 => (cond (!r1) (some [.lst (.one (.ls .i16)) [], .v (.int .i64 2)]) (cond (!(s_iwithin a3 0 2000)) (some [.lst (.one (.ls .i16)) [], .v (.int .i64 2)]) (cond (!(s_iwithin a4 1 20)) (some [.lst (.one (.ls .i16)) [], .v (.int .i64 2)]) (Option.bind (s_ibrick a0 a1 a2 a2) fun r2 => (cond (!r2.2) (some [.lst (.one (.ls .i16)) [], .v (.int .i64 6)]) (f_iStaggerRows_L r 8 (f_iStaggerRows_s8 a0 a1 a2 a3 (IntKind.wrap .i64 (a4 - 1)) 0 [r2.1])))))))))) = some r := fun r h => (sem_cond h (fun h => sem_got h fun q => some_eq q) (fun h => (sem_cond h (fun h => sem_got h fun q => some_eq q) (fun h => (sem_bind h fun r1 h => (sem_cond h (fun h => sem_got h fun q => some_eq q) (fun h => (sem_cond h (fun h => sem_got h fun q => some_eq q) (fun h => (sem_cond h (fun h => sem_got h fun q => some_eq q) (fun h => (sem_bind h fun r2 h => (sem_cond h (fun h => sem_got h fun q => some_eq q) (fun h => f_iStaggerRows_go8 r _ h))))))))))))))
  exact go (l_iStaggerRows v) ⟨v, h, rfl⟩
noncomputable def c_iStaggerRows : List A → ACall
  | [.v (.int .i64 a0), .v (.int .i64 a1), .v (.int .i64 a2), .v (.int .i64 a3), .v (.int .i64 a4)] => ⟨((List (List Int)) × Int), s_iStaggerRows a0 a1 a2 a3 a4, fun r => .tup [.lst (.one (.ls .i16)) r.1, .v (.int .i64 r.2)]⟩
  | _ => ACall.fail
theorem f_iStaggerRows_sound : Sound Tryd.prog 17 c_iStaggerRows := by
  refine sound_good f_iStaggerRows_ctx f_iStaggerRows_LV 5 Tryd.func17 (c := f_iStaggerRows_c) (by kernel_rfl) (rv := f_iStaggerRows_rv) (by kernel_rfl) (by kernel_rfl) (by kernel_rfl) (by kernel_rfl) fun rs => ?_
  unfold c_iStaggerRows
  split
  · rename_i a0 a1 a2 a3 a4; intro v h; exact ⟨rfl, l_iStaggerRows v, rfl, (f_iStaggerRows_top a0 a1 a2 a3 a4 _).trans (s_iStaggerRows_ok a0 a1 a2 a3 a4 v h)⟩
  · intro v h; cases h

/-! ### function 18: loop.example/g01322/spec.StaggerRows -/
noncomputable def f_sStaggerRows_c : Code := match Tryd.f18.body with | some c => c | none => .skip
noncomputable def f_sStaggerRows_X : Ctx := ⟨TT, phiOf [(40, c_sl05Width), (49, c_sl05Long), (50, c_sl05Brick), (56, c_sl05Near), (57, c_sl00In), (58, c_sl05Clashes)], noPsi, noXi⟩
def f_sStaggerRows_LV : List (Nat × Keep) := [(4, ([0, 1, 2, 3, 4, 12], [], [])), (7, ([0, 1, 2, 3, 4, 12, 13, 14], [], []))]
def f_sStaggerRows_rv : List ResultVar := [.tmp 10, .tmp 11]
noncomputable def f_sStaggerRows_L (r : List A) : Nat → AS → Option (List A) := L f_sStaggerRows_X (cnOf f_sStaggerRows_LV) f_sStaggerRows_c (K0 TT f_sStaggerRows_rv) r
theorem f_sStaggerRows_ctx : CtxOK Tryd.prog f_sStaggerRows_X := ctx_of tab mix ⟨⟨Tryd.call40, f_sl05Width_sound⟩, ⟨Tryd.call49, f_sl05Long_sound⟩, ⟨Tryd.call50, f_sl05Brick_sound⟩, ⟨Tryd.call56, f_sl05Near_sound⟩, ⟨Tryd.call57, f_sl00In_sound⟩, ⟨Tryd.call58, f_sl05Clashes_sound⟩, trivial⟩
noncomputable def f_sStaggerRows_s4 (x0 : Int) (x1 : Int) (x2 : Int) (x3 : Int) (x4 : Int) (x5 : (List (List Int))) : AS := ⟨[(0, .a (.v (.int .i64 x0))), (1, .a (.v (.int .i64 x1))), (2, .a (.v (.int .i64 x2))), (3, .a (.v (.int .i64 x3))), (4, .a (.v (.int .i64 x4))), (12, .a (.sl 0))], [(0, some ⟨true, .arr (.one (.ls .i16)) x5⟩)], 1⟩
noncomputable def f_sStaggerRows_s7 (x0 : Int) (x1 : Int) (x2 : Int) (x3 : Int) (x4 : Int) (x5 : Bool) (x6 : Int) (x7 : (List (List Int))) : AS := ⟨[(0, .a (.v (.int .i64 x0))), (1, .a (.v (.int .i64 x1))), (2, .a (.v (.int .i64 x2))), (3, .a (.v (.int .i64 x3))), (4, .a (.v (.int .i64 x4))), (12, .a (.sl 0)), (13, .a (.v (.bool x5))), (14, .a (.v (.int .i64 x6)))], [(0, some ⟨true, .arr (.one (.ls .i16)) x7⟩)], 1⟩
noncomputable def l_sStaggerRows (r : ((List (List Int)) × Int)) : List A := [.lst (.one (.ls .i16)) r.1, .v (.int .i64 r.2)]
theorem f_sStaggerRows_step7 (x0 : Int) (x1 : Int) (x2 : Int) (x3 : Int) (x4 : Int) (x5 : Bool) (x6 : Int) (x7 : (List (List Int))) (r : List A) (h : (cond (decide (x6 ≥ 1)) (cond (!x5) (Option.bind (s_sl05Brick x0 x1 x2 x6) fun r1 => (cond (((List.length x7 : Nat) : Int) == 0) (cond (!r1.2) (some [.lst (.one (.ls .i16)) [], .v (.int .i64 6)]) (cond (fits ((List.length (x7 : List (List Int)) + List.length ([r1.1] : List (List Int))) * 24)) (f_sStaggerRows_L r 7 (f_sStaggerRows_s7 x0 x1 x2 x3 x4 true (IntKind.wrap .i64 (x6 - 1)) (x7 ++ [r1.1]))) none)) (cond r1.2 (cond (inB (IntKind.wrap .i64 (((List.length x7 : Nat) : Int) - 1)) (List.length x7)) (Option.bind (s_sl05Clashes (List.getD x7 (Int.toNat (IntKind.wrap .i64 (((List.length x7 : Nat) : Int) - 1))) ([] : List Int)) (r1.1) x1 x3) fun r2 => (cond (((List.length r2 : Nat) : Int) == 0) (cond (fits ((List.length (x7 : List (List Int)) + List.length ([r1.1] : List (List Int))) * 24)) (f_sStaggerRows_L r 7 (f_sStaggerRows_s7 x0 x1 x2 x3 x4 true (IntKind.wrap .i64 (x6 - 1)) (x7 ++ [r1.1]))) none) (f_sStaggerRows_L r 7 (f_sStaggerRows_s7 x0 x1 x2 x3 x4 x5 (IntKind.wrap .i64 (x6 - 1)) x7)))) none) (f_sStaggerRows_L r 7 (f_sStaggerRows_s7 x0 x1 x2 x3 x4 x5 (IntKind.wrap .i64 (x6 - 1)) x7))))) (cond (!x5) (some [.lst (.one (.ls .i16)) [], .v (.int .i64 6)]) (f_sStaggerRows_L r 4 (f_sStaggerRows_s4 x0 x1 x2 x3 x4 x7)))) (cond (!x5) (some [.lst (.one (.ls .i16)) [], .v (.int .i64 6)]) (f_sStaggerRows_L r 4 (f_sStaggerRows_s4 x0 x1 x2 x3 x4 x7)))) = some r) : f_sStaggerRows_L r 7 (f_sStaggerRows_s7 x0 x1 x2 x3 x4 x5 x6 x7) = some r :=
  step_of' h (by kernel_rfl)
noncomputable def f_sStaggerRows_n7 (x0 : Int) (x1 : Int) (x2 : Int) (x3 : Int) (x4 : Int) (x5 : Bool) (x6 : Int) (x7 : (List (List Int))) : Option ((Int × Int × Int × Int × Int × Bool × Int × (List (List Int))) ⊕ ((Int × Int × Int × Int × Int × (List (List Int))) ⊕ ((List (List Int)) × Int))) := (cond (decide (x6 ≥ 1)) (cond (!x5) (Option.bind (s_sl05Brick x0 x1 x2 x6) fun r1 => (cond (((List.length x7 : Nat) : Int) == 0) (cond (!r1.2) (some (Sum.inr (Sum.inr ([], 6)))) (cond (fits ((List.length (x7 : List (List Int)) + List.length ([r1.1] : List (List Int))) * 24)) (some (Sum.inl (x0, x1, x2, x3, x4, true, (IntKind.wrap .i64 (x6 - 1)), (x7 ++ [r1.1])))) none)) (cond r1.2 (cond (inB (IntKind.wrap .i64 (((List.length x7 : Nat) : Int) - 1)) (List.length x7)) (Option.bind (s_sl05Clashes (List.getD x7 (Int.toNat (IntKind.wrap .i64 (((List.length x7 : Nat) : Int) - 1))) ([] : List Int)) (r1.1) x1 x3) fun r2 => (cond (((List.length r2 : Nat) : Int) == 0) (cond (fits ((List.length (x7 : List (List Int)) + List.length ([r1.1] : List (List Int))) * 24)) (some (Sum.inl (x0, x1, x2, x3, x4, true, (IntKind.wrap .i64 (x6 - 1)), (x7 ++ [r1.1])))) none) (some (Sum.inl (x0, x1, x2, x3, x4, x5, (IntKind.wrap .i64 (x6 - 1)), x7))))) none) (some (Sum.inl (x0, x1, x2, x3, x4, x5, (IntKind.wrap .i64 (x6 - 1)), x7)))))) (cond (!x5) (some (Sum.inr (Sum.inr ([], 6)))) (some (Sum.inr (Sum.inl (x0, x1, x2, x3, x4, x7)))))) (cond (!x5) (some (Sum.inr (Sum.inr ([], 6)))) (some (Sum.inr (Sum.inl (x0, x1, x2, x3, x4, x7))))))
noncomputable def f_sStaggerRows_run7 (x : (Int × Int × Int × Int × Int × Bool × Int × (List (List Int)))) : Option ((Int × Int × Int × Int × Int × (List (List Int))) ⊕ ((List (List Int)) × Int)) := iter (fun x => f_sStaggerRows_n7 x.1 x.2.1 x.2.2.1 x.2.2.2.1 x.2.2.2.2.1 x.2.2.2.2.2.1 x.2.2.2.2.2.2.1 x.2.2.2.2.2.2.2) FU x
noncomputable def f_sStaggerRows_G7 (r : List A) (x : (Int × Int × Int × Int × Int × Bool × Int × (List (List Int)))) : Prop := f_sStaggerRows_L r 7 (f_sStaggerRows_s7 x.1 x.2.1 x.2.2.1 x.2.2.2.1 x.2.2.2.2.1 x.2.2.2.2.2.1 x.2.2.2.2.2.2.1 x.2.2.2.2.2.2.2) = some r
theorem f_sStaggerRows_step4 (x0 : Int) (x1 : Int) (x2 : Int) (x3 : Int) (x4 : Int) (x5 : (List (List Int))) (r : List A) (h : (cond (decide (((List.length x5 : Nat) : Int) < x4)) (f_sStaggerRows_L r 7 (f_sStaggerRows_s7 x0 x1 x2 x3 x4 false x2 x5)) (some [.lst (.one (.ls .i16)) x5, .v (.int .i64 0)])) = some r) : f_sStaggerRows_L r 4 (f_sStaggerRows_s4 x0 x1 x2 x3 x4 x5) = some r :=
  step_of' h (by kernel_rfl)
noncomputable def f_sStaggerRows_n4 (x0 : Int) (x1 : Int) (x2 : Int) (x3 : Int) (x4 : Int) (x5 : (List (List Int))) : Option ((Int × Int × Int × Int × Int × (List (List Int))) ⊕ ((List (List Int)) × Int)) := (cond (decide (((List.length x5 : Nat) : Int) < x4)) (f_sStaggerRows_run7 (x0, x1, x2, x3, x4, false, x2, x5)) (some (Sum.inr (x5, 0))))
noncomputable def f_sStaggerRows_run4 (x : (Int × Int × Int × Int × Int × (List (List Int)))) : Option ((List (List Int)) × Int) := iter (fun x => f_sStaggerRows_n4 x.1 x.2.1 x.2.2.1 x.2.2.2.1 x.2.2.2.2.1 x.2.2.2.2.2) FU x
noncomputable def f_sStaggerRows_G4 (r : List A) (x : (Int × Int × Int × Int × Int × (List (List Int)))) : Prop := f_sStaggerRows_L r 4 (f_sStaggerRows_s4 x.1 x.2.1 x.2.2.1 x.2.2.2.1 x.2.2.2.2.1 x.2.2.2.2.2) = some r
noncomputable def f_sStaggerRows_S4 (r : List A) : ((List (List Int)) × Int) → Prop := fun v => r = l_sStaggerRows v
noncomputable def f_sStaggerRows_S7 (r : List A) : ((Int × Int × Int × Int × Int × (List (List Int))) ⊕ ((List (List Int)) × Int)) → Prop := goesOn (f_sStaggerRows_G4 r) (f_sStaggerRows_S4 r)
theorem f_sStaggerRows_go7 (r : List A) : ∀ x, sem (f_sStaggerRows_S7 r) (f_sStaggerRows_run7 x) → f_sStaggerRows_G7 r x :=
  fun x => iter_sound (step := fun x => f_sStaggerRows_n7 x.1 x.2.1 x.2.2.1 x.2.2.2.1 x.2.2.2.2.1 x.2.2.2.2.2.1 x.2.2.2.2.2.2.1 x.2.2.2.2.2.2.2) (fun x h => by
    unfold f_sStaggerRows_n7 at h
    exact f_sStaggerRows_step7 x.1 x.2.1 x.2.2.1 x.2.2.2.1 x.2.2.2.2.1 x.2.2.2.2.2.1 x.2.2.2.2.2.2.1 x.2.2.2.2.2.2.2 r ((sem_cond h (fun h => (sem_cond h (fun h => (sem_bind h fun r1 h => (sem_cond h (fun h => (sem_cond h (fun h => sem_got h fun q => some_eq q) (fun h => (sem_cond h (fun h => sem_got h fun q => q) (fun h => sem_none h))))) (fun h => (sem_cond h (fun h => (sem_cond h (fun h => (sem_bind h fun r2 h => (sem_cond h (fun h => (sem_cond h (fun h => sem_got h fun q => q) (fun h => sem_none h))) (fun h => sem_got h fun q => q)))) (fun h => sem_none h))) (fun h => sem_got h fun q => q)))))) (fun h => (sem_cond h (fun h => sem_got h fun q => some_eq q) (fun h => sem_got h fun q => q))))) (fun h => (sem_cond h (fun h => sem_got h fun q => some_eq q) (fun h => sem_got h fun q => q)))))) FU x
theorem f_sStaggerRows_go4 (r : List A) : ∀ x, sem (f_sStaggerRows_S4 r) (f_sStaggerRows_run4 x) → f_sStaggerRows_G4 r x :=
  fun x => iter_sound (step := fun x => f_sStaggerRows_n4 x.1 x.2.1 x.2.2.1 x.2.2.2.1 x.2.2.2.2.1 x.2.2.2.2.2) (fun x h => by
    unfold f_sStaggerRows_n4 at h
    exact f_sStaggerRows_step4 x.1 x.2.1 x.2.2.1 x.2.2.2.1 x.2.2.2.2.1 x.2.2.2.2.2 r ((sem_cond h (fun h => f_sStaggerRows_go7 r _ h) (fun h => sem_got h fun q => some_eq q)))) FU x
noncomputable def s_sStaggerRows (a0 : Int) (a1 : Int) (a2 : Int) (a3 : Int) (a4 : Int) : Option ((List (List Int)) × Int) := (cond (!(s_sl05Long a0 a1)) (some ([], 2)) (cond (!(s_sl05Width a2)) (some ([], 2)) (cond (!(s_sl05Near a3)) (some ([], 2)) (cond (!(s_sl00In a4 1 20)) (some ([], 2)) (f_sStaggerRows_run4 (a0, a1, a2, a3, a4, []))))))
theorem f_sStaggerRows_top (a0 : Int) (a1 : Int) (a2 : Int) (a3 : Int) (a4 : Int) (r : List A) : ev f_sStaggerRows_X (lpc (cnOf f_sStaggerRows_LV) (f_sStaggerRows_L r)) f_sStaggerRows_c (K0 TT f_sStaggerRows_rv) (enter [.v (.int .i64 a0), .v (.int .i64 a1), .v (.int .i64 a2), .v (.int .i64 a3), .v (.int .i64 a4)]) = (cond (!(s_sl05Long a0 a1)) (some [.lst (.one (.ls .i16)) [], .v (.int .i64 2)]) (cond (!(s_sl05Width a2)) (some [.lst (.one (.ls .i16)) [], .v (.int .i64 2)]) (cond (!(s_sl05Near a3)) (some [.lst (.one (.ls .i16)) [], .v (.int .i64 2)]) (cond (!(s_sl00In a4 1 20)) (some [.lst (.one (.ls .i16)) [], .v (.int .i64 2)]) (f_sStaggerRows_L r 4 (f_sStaggerRows_s4 a0 a1 a2 a3 a4 [])))))) := by kernel_rfl
theorem s_sStaggerRows_ok (a0 : Int) (a1 : Int) (a2 : Int) (a3 : Int) (a4 : Int) (v : ((List (List Int)) × Int)) (h : s_sStaggerRows a0 a1 a2 a3 a4 = some v) : (cond (!(s_sl05Long a0 a1)) (some [.lst (.one (.ls .i16)) [], .v (.int .i64 2)]) (cond (!(s_sl05Width a2)) (some [.lst (.one (.ls .i16)) [], .v (.int .i64 2)]) (cond (!(s_sl05Near a3)) (some [.lst (.one (.ls .i16)) [], .v (.int .i64 2)]) (cond (!(s_sl00In a4 1 20)) (some [.lst (.one (.ls .i16)) [], .v (.int .i64 2)]) (f_sStaggerRows_L (l_sStaggerRows v) 4 (f_sStaggerRows_s4 a0 a1 a2 a3 a4 [])))))) = some (l_sStaggerRows v) := by
  unfold s_sStaggerRows at h
  have go : ∀ r, sem (fun v => r = l_sStaggerRows v) ((cond (!(s_sl05Long a0 a1)) (some ([], 2)) (cond (!(s_sl05Width a2)) (some ([], 2)) (cond (!(s_sl05Near a3)) (some ([], 2)) (cond (!(s_sl00In a4 1 20)) (some ([], 2)) (f_sStaggerRows_run4 (a0, a1, a2, a3, a4, []))))))) → (cond (!(s_sl05Long a0 a1)) (some [.lst (.one (.ls .i16)) [], .v (.int .i64 2)]) (cond (!(s_sl05Width a2)) (some [.lst (.one (.ls .i16)) [], .v (.int .i64 2)]) (cond (!(s_sl05Near a3)) (some [.lst (.one (.ls .i16)) [], .v (.int .i64 2)]) (cond (!(s_sl00In a4 1 20)) (some [.lst (.one (.ls .i16)) [], .v (.int .i64 2)]) (f_sStaggerRows_L r 4 (f_sStaggerRows_s4 a0 a1 a2 a3 a4 [])))))) = some r := fun r h => (sem_cond h (fun h => sem_got h fun q => some_eq q) (fun h => (sem_cond h (fun h => sem_got h fun q => some_eq q) (fun h => (sem_cond h (fun h => sem_got h fun q => some_eq q) (fun h => (sem_cond h (fun h => sem_got h fun q => some_eq q) (fun h => f_sStaggerRows_go4 r _ h))))))))
  exact go (l_sStaggerRows v) ⟨v, h, rfl⟩
noncomputable def c_sStaggerRows : List A → ACall
  | [.v (.int .i64 a0), .v (.int .i64 a1), .v (.int .i64 a2), .v (.int .i64 a3), .v (.int .i64 a4)] => ⟨((List (List Int)) × Int), s_sStaggerRows a0 a1 a2 a3 a4, fun r => .tup [.lst (.one (.ls .i16)) r.1, .v (.int .i64 r.2)]⟩
  | _ => ACall.fail
theorem f_sStaggerRows_sound : Sound Tryd.prog 18 c_sStaggerRows := by
  refine sound_good f_sStaggerRows_ctx f_sStaggerRows_LV 5 Tryd.func18 (c := f_sStaggerRows_c) (by kernel_rfl) (rv := f_sStaggerRows_rv) (by kernel_rfl) (by kernel_rfl) (by kernel_rfl) (by kernel_rfl) fun rs => ?_
  unfold c_sStaggerRows
  split
  · rename_i a0 a1 a2 a3 a4; intro v h; exact ⟨rfl, l_sStaggerRows v, rfl, (f_sStaggerRows_top a0 a1 a2 a3 a4 _).trans (s_sStaggerRows_ok a0 a1 a2 a3 a4 v h)⟩
  · intro v h; cases h

/-! ### function 60: loop.example/g01322/impl.FirstClash$1 -/
noncomputable def f_iFirstClash_1_c : Code := match Tryd.f60.body with | some c => c | none => .skip
noncomputable def f_iFirstClash_1_X : Ctx := ⟨TT, phiOf [(44, c_iValidRow)], noPsi, noXi⟩
def f_iFirstClash_1_LV : List (Nat × Keep) := []
def f_iFirstClash_1_rv : List ResultVar := [.tmp 2]
noncomputable def f_iFirstClash_1_L (r : List A) : Nat → AS → Option (List A) := L f_iFirstClash_1_X (cnOf f_iFirstClash_1_LV) f_iFirstClash_1_c (K0 TT f_iFirstClash_1_rv) r
theorem f_iFirstClash_1_ctx : CtxOK Tryd.prog f_iFirstClash_1_X := ctx_of tab mix ⟨⟨Tryd.call44, f_iValidRow_sound⟩, trivial⟩
noncomputable def s_iFirstClash_1 (a0 : (List Int)) : Option Bool := (Option.bind (s_iValidRow a0) fun r1 => (some (!r1)))
theorem f_iFirstClash_1_top (a0 : (List Int)) (r : List A) : ev f_iFirstClash_1_X (lpc (cnOf f_iFirstClash_1_LV) (f_iFirstClash_1_L r)) f_iFirstClash_1_c (K0 TT f_iFirstClash_1_rv) (enter [.lst (.one (.i .i16)) a0]) = (Option.bind (s_iValidRow a0) fun r1 => (some [.v (.bool (!r1))])) := by kernel_rfl
noncomputable def l_iFirstClash_1 (r : Bool) : List A := [.v (.bool r)]
theorem s_iFirstClash_1_ok (a0 : (List Int)) (v : Bool) (h : s_iFirstClash_1 a0 = some v) : (Option.bind (s_iValidRow a0) fun r1 => (some [.v (.bool (!r1))])) = some (l_iFirstClash_1 v) := by
  have e : (Option.bind (s_iValidRow a0) fun r1 => (some [.v (.bool (!r1))])) = Option.map l_iFirstClash_1 (s_iFirstClash_1 a0) := by
    unfold s_iFirstClash_1
    exact (bind_app fun _ => rfl)
  rw [e, h]; rfl
noncomputable def c_iFirstClash_1 : List A → ACall
  | [.lst (.one (.i .i16)) a0] => ⟨Bool, s_iFirstClash_1 a0, fun r => .one (.v (.bool r))⟩
  | _ => ACall.fail
theorem f_iFirstClash_1_sound : Sound Tryd.prog 60 c_iFirstClash_1 := by
  refine sound_good f_iFirstClash_1_ctx f_iFirstClash_1_LV 1 Tryd.func60 (c := f_iFirstClash_1_c) (by kernel_rfl) (rv := f_iFirstClash_1_rv) (by kernel_rfl) (by kernel_rfl) (by kernel_rfl) (by kernel_rfl) fun rs => ?_
  unfold c_iFirstClash_1
  split
  · rename_i a0; intro v h; exact ⟨rfl, l_iFirstClash_1 v, rfl, (f_iFirstClash_1_top a0 _).trans (s_iFirstClash_1_ok a0 v h)⟩
  · intro v h; cases h

/-! ### function 89: slices.IndexFunc[[]loop.example/g01322/impl.Row,loop.example/g01322/impl.Row] -/
noncomputable def f_gIndexFunc_Row_a_c : Code := match Tryd.f89.body with | some c => c | none => .skip
noncomputable def f_gIndexFunc_Row_a_X : Ctx := ⟨TT, phiOf [(60, c_iFirstClash_1)], noPsi, noXi⟩
def f_gIndexFunc_Row_a_LV : List (Nat × Keep) := [(2, ([0, 1, 7, 8], [], []))]
def f_gIndexFunc_Row_a_rv : List ResultVar := [.tmp 4]
noncomputable def f_gIndexFunc_Row_a_L (r : List A) : Nat → AS → Option (List A) := L f_gIndexFunc_Row_a_X (cnOf f_gIndexFunc_Row_a_LV) f_gIndexFunc_Row_a_c (K0 TT f_gIndexFunc_Row_a_rv) r
theorem f_gIndexFunc_Row_a_ctx : CtxOK Tryd.prog f_gIndexFunc_Row_a_X := ctx_of tab mix ⟨⟨Tryd.call60, f_iFirstClash_1_sound⟩, trivial⟩
noncomputable def f_gIndexFunc_Row_a_s2 (x0 : Int) (x1 : Int) (x2 : (List (List Int))) : AS := ⟨[(0, .a (.sl 0)), (1, .a (.clo 60 [])), (7, .a (.v (.int .i64 x0))), (8, .a (.v (.int .i64 x1)))], [(0, some ⟨false, .arr (.one (.ls .i16)) x2⟩)], 1⟩
noncomputable def l_gIndexFunc_Row_a (r : Int) : List A := [.v (.int .i64 r)]
theorem f_gIndexFunc_Row_a_step2 (x0 : Int) (x1 : Int) (x2 : (List (List Int))) (r : List A) (h : (cond (decide (x1 < x0)) (cond (inB x1 (List.length x2)) (Option.bind (s_iFirstClash_1 (List.getD x2 (Int.toNat x1) ([] : List Int))) fun r1 => (cond r1 (some [.v (.int .i64 x1)]) (f_gIndexFunc_Row_a_L r 2 (f_gIndexFunc_Row_a_s2 x0 (IntKind.wrap .i64 (x1 + 1)) x2)))) none) (some [.v (.int .i64 (-1))])) = some r) : f_gIndexFunc_Row_a_L r 2 (f_gIndexFunc_Row_a_s2 x0 x1 x2) = some r :=
  step_of' h (by kernel_rfl)
noncomputable def f_gIndexFunc_Row_a_n2 (x0 : Int) (x1 : Int) (x2 : (List (List Int))) : Option ((Int × Int × (List (List Int))) ⊕ Int) := (cond (decide (x1 < x0)) (cond (inB x1 (List.length x2)) (Option.bind (s_iFirstClash_1 (List.getD x2 (Int.toNat x1) ([] : List Int))) fun r1 => (cond r1 (some (Sum.inr x1)) (some (Sum.inl (x0, (IntKind.wrap .i64 (x1 + 1)), x2))))) none) (some (Sum.inr (-1))))
noncomputable def f_gIndexFunc_Row_a_run2 (x : (Int × Int × (List (List Int)))) : Option Int := iter (fun x => f_gIndexFunc_Row_a_n2 x.1 x.2.1 x.2.2) FU x
noncomputable def f_gIndexFunc_Row_a_G2 (r : List A) (x : (Int × Int × (List (List Int)))) : Prop := f_gIndexFunc_Row_a_L r 2 (f_gIndexFunc_Row_a_s2 x.1 x.2.1 x.2.2) = some r
noncomputable def f_gIndexFunc_Row_a_S2 (r : List A) : Int → Prop := fun v => r = l_gIndexFunc_Row_a v
theorem f_gIndexFunc_Row_a_go2 (r : List A) : ∀ x, sem (f_gIndexFunc_Row_a_S2 r) (f_gIndexFunc_Row_a_run2 x) → f_gIndexFunc_Row_a_G2 r x :=
  fun x => iter_sound (step := fun x => f_gIndexFunc_Row_a_n2 x.1 x.2.1 x.2.2) (fun x h => by
    unfold f_gIndexFunc_Row_a_n2 at h
    exact f_gIndexFunc_Row_a_step2 x.1 x.2.1 x.2.2 r ((sem_cond h (fun h => (sem_cond h (fun h => (sem_bind h fun r1 h => (sem_cond h (fun h => sem_got h fun q => some_eq q) (fun h => sem_got h fun q => q)))) (fun h => sem_none h))) (fun h => sem_got h fun q => some_eq q)))) FU x
noncomputable def s_gIndexFunc_Row_a (a0 : (List (List Int))) : Option Int := (f_gIndexFunc_Row_a_run2 (((List.length a0 : Nat) : Int), 0, a0))
theorem f_gIndexFunc_Row_a_top (a0 : (List (List Int))) (r : List A) : ev f_gIndexFunc_Row_a_X (lpc (cnOf f_gIndexFunc_Row_a_LV) (f_gIndexFunc_Row_a_L r)) f_gIndexFunc_Row_a_c (K0 TT f_gIndexFunc_Row_a_rv) (enter [.lst (.one (.ls .i16)) a0, .clo 60 []]) = (f_gIndexFunc_Row_a_L r 2 (f_gIndexFunc_Row_a_s2 ((List.length a0 : Nat) : Int) 0 a0)) := by kernel_rfl
theorem s_gIndexFunc_Row_a_ok (a0 : (List (List Int))) (v : Int) (h : s_gIndexFunc_Row_a a0 = some v) : (f_gIndexFunc_Row_a_L (l_gIndexFunc_Row_a v) 2 (f_gIndexFunc_Row_a_s2 ((List.length a0 : Nat) : Int) 0 a0)) = some (l_gIndexFunc_Row_a v) := by
  unfold s_gIndexFunc_Row_a at h
  have go : ∀ r, sem (fun v => r = l_gIndexFunc_Row_a v) ((f_gIndexFunc_Row_a_run2 (((List.length a0 : Nat) : Int), 0, a0))) → (f_gIndexFunc_Row_a_L r 2 (f_gIndexFunc_Row_a_s2 ((List.length a0 : Nat) : Int) 0 a0)) = some r := fun r h => f_gIndexFunc_Row_a_go2 r _ h
  exact go (l_gIndexFunc_Row_a v) ⟨v, h, rfl⟩
noncomputable def c_gIndexFunc_Row_a : List A → ACall
  | [.lst (.one (.ls .i16)) a0, .clo 60 []] => ⟨Int, s_gIndexFunc_Row_a a0, fun r => .one (.v (.int .i64 r))⟩
  | _ => ACall.fail
theorem f_gIndexFunc_Row_a_sound : Sound Tryd.prog 89 c_gIndexFunc_Row_a := by
  refine sound_good f_gIndexFunc_Row_a_ctx f_gIndexFunc_Row_a_LV 2 Tryd.func89 (c := f_gIndexFunc_Row_a_c) (by kernel_rfl) (rv := f_gIndexFunc_Row_a_rv) (by kernel_rfl) (by kernel_rfl) (by kernel_rfl) (by kernel_rfl) fun rs => ?_
  unfold c_gIndexFunc_Row_a
  split
  · rename_i a0; intro v h; exact ⟨rfl, l_gIndexFunc_Row_a v, rfl, (f_gIndexFunc_Row_a_top a0 _).trans (s_gIndexFunc_Row_a_ok a0 v h)⟩
  · intro v h; cases h
def m_gIndexFunc_Row_a : List A → Bool
  | [_, .clo 60 _] => true
  | _ => false

/-! ### function 59: slices.ContainsFunc[[]loop.example/g01322/impl.Row,loop.example/g01322/impl.Row] -/
noncomputable def f_gContainsFunc_Row_a_c : Code := match Tryd.f59.body with | some c => c | none => .skip
noncomputable def f_gContainsFunc_Row_a_X : Ctx := ⟨TT, phiOf [(89, c_gIndexFunc_Row_a)], noPsi, noXi⟩
def f_gContainsFunc_Row_a_LV : List (Nat × Keep) := []
def f_gContainsFunc_Row_a_rv : List ResultVar := [.tmp 4]
noncomputable def f_gContainsFunc_Row_a_L (r : List A) : Nat → AS → Option (List A) := L f_gContainsFunc_Row_a_X (cnOf f_gContainsFunc_Row_a_LV) f_gContainsFunc_Row_a_c (K0 TT f_gContainsFunc_Row_a_rv) r
theorem f_gContainsFunc_Row_a_ctx : CtxOK Tryd.prog f_gContainsFunc_Row_a_X := ctx_of tab mix ⟨⟨Tryd.call89, f_gIndexFunc_Row_a_sound⟩, trivial⟩
noncomputable def s_gContainsFunc_Row_a (a0 : (List (List Int))) : Option Bool := (Option.bind (s_gIndexFunc_Row_a a0) fun r1 => (some (decide (r1 ≥ 0))))
theorem f_gContainsFunc_Row_a_top (a0 : (List (List Int))) (r : List A) : ev f_gContainsFunc_Row_a_X (lpc (cnOf f_gContainsFunc_Row_a_LV) (f_gContainsFunc_Row_a_L r)) f_gContainsFunc_Row_a_c (K0 TT f_gContainsFunc_Row_a_rv) (enter [.lst (.one (.ls .i16)) a0, .clo 60 []]) = (Option.bind (s_gIndexFunc_Row_a a0) fun r1 => (some [.v (.bool (decide (r1 ≥ 0)))])) := by kernel_rfl
noncomputable def l_gContainsFunc_Row_a (r : Bool) : List A := [.v (.bool r)]
theorem s_gContainsFunc_Row_a_ok (a0 : (List (List Int))) (v : Bool) (h : s_gContainsFunc_Row_a a0 = some v) : (Option.bind (s_gIndexFunc_Row_a a0) fun r1 => (some [.v (.bool (decide (r1 ≥ 0)))])) = some (l_gContainsFunc_Row_a v) := by
  have e : (Option.bind (s_gIndexFunc_Row_a a0) fun r1 => (some [.v (.bool (decide (r1 ≥ 0)))])) = Option.map l_gContainsFunc_Row_a (s_gContainsFunc_Row_a a0) := by
    unfold s_gContainsFunc_Row_a
    exact (bind_app fun _ => rfl)
  rw [e, h]; rfl
noncomputable def c_gContainsFunc_Row_a : List A → ACall
  | [.lst (.one (.ls .i16)) a0, .clo 60 []] => ⟨Bool, s_gContainsFunc_Row_a a0, fun r => .one (.v (.bool r))⟩
  | _ => ACall.fail
theorem f_gContainsFunc_Row_a_sound : Sound Tryd.prog 59 c_gContainsFunc_Row_a := by
  refine sound_good f_gContainsFunc_Row_a_ctx f_gContainsFunc_Row_a_LV 2 Tryd.func59 (c := f_gContainsFunc_Row_a_c) (by kernel_rfl) (rv := f_gContainsFunc_Row_a_rv) (by kernel_rfl) (by kernel_rfl) (by kernel_rfl) (by kernel_rfl) fun rs => ?_
  unfold c_gContainsFunc_Row_a
  split
  · rename_i a0; intro v h; exact ⟨rfl, l_gContainsFunc_Row_a v, rfl, (f_gContainsFunc_Row_a_top a0 _).trans (s_gContainsFunc_Row_a_ok a0 v h)⟩
  · intro v h; cases h
def m_gContainsFunc_Row_a : List A → Bool
  | [_, .clo 60 _] => true
  | _ => false

/-! ### function 20: loop.example/g01322/impl.FirstClash -/
noncomputable def f_iFirstClash_c : Code := match Tryd.f20.body with | some c => c | none => .skip
noncomputable def f_iFirstClash_X : Ctx := ⟨TT, phiOf [(59, c_gContainsFunc_Row_a), (46, c_iisSeam), (52, c_icodeOf), (54, c_iwithin), (55, c_iclashes)], noPsi, noXi⟩
def f_iFirstClash_LV : List (Nat × Keep) := [(8, ([0, 1, 2, 10], [], []))]
def f_iFirstClash_rv : List ResultVar := [.tmp 6, .tmp 7]
noncomputable def f_iFirstClash_L (r : List A) : Nat → AS → Option (List A) := L f_iFirstClash_X (cnOf f_iFirstClash_LV) f_iFirstClash_c (K0 TT f_iFirstClash_rv) r
theorem f_iFirstClash_ctx : CtxOK Tryd.prog f_iFirstClash_X := ctx_of tab mix ⟨⟨Tryd.call59, f_gContainsFunc_Row_a_sound⟩, ⟨Tryd.call46, f_iisSeam_sound⟩, ⟨Tryd.call52, f_icodeOf_sound⟩, ⟨Tryd.call54, f_iwithin_sound⟩, ⟨Tryd.call55, f_iclashes_sound⟩, trivial⟩
noncomputable def f_iFirstClash_s8 (x0 : Int) (x1 : Int) (x2 : Int) (x3 : (List (List Int))) : AS := ⟨[(0, .a (.sl 0)), (1, .a (.v (.int .i64 x0))), (2, .a (.v (.int .i64 x1))), (10, .a (.v (.int .i64 x2)))], [(0, some ⟨false, .arr (.one (.ls .i16)) x3⟩)], 1⟩
noncomputable def l_iFirstClash (r : (Int × Int)) : List A := [.v (.int .i64 r.1), .v (.int .i64 r.2)]
theorem f_iFirstClash_step8 (x0 : Int) (x1 : Int) (x2 : Int) (x3 : (List (List Int))) (r : List A) (h : (cond (decide (x2 < ((List.length x3 : Nat) : Int))) (cond (inB (IntKind.wrap .i64 (x2 - 1)) (List.length x3)) (cond (inB x2 (List.length x3)) (Option.bind (s_iclashes (List.getD x3 (Int.toNat (IntKind.wrap .i64 (x2 - 1))) ([] : List Int)) (List.getD x3 (Int.toNat x2) ([] : List Int)) x0 x1) fun r2 => (cond (decide (((List.length r2 : Nat) : Int) > 0)) (some [.v (.int .i64 x2), .v (.int .i64 0)]) (f_iFirstClash_L r 8 (f_iFirstClash_s8 x0 x1 (IntKind.wrap .i64 (x2 + 1)) x3)))) none) none) (some [.v (.int .i64 0), .v (.int .i64 6)])) = some r) : f_iFirstClash_L r 8 (f_iFirstClash_s8 x0 x1 x2 x3) = some r :=
  step_of' h (by kernel_rfl)
noncomputable def f_iFirstClash_n8 (x0 : Int) (x1 : Int) (x2 : Int) (x3 : (List (List Int))) : Option ((Int × Int × Int × (List (List Int))) ⊕ (Int × Int)) := (cond (decide (x2 < ((List.length x3 : Nat) : Int))) (cond (inB (IntKind.wrap .i64 (x2 - 1)) (List.length x3)) (cond (inB x2 (List.length x3)) (Option.bind (s_iclashes (List.getD x3 (Int.toNat (IntKind.wrap .i64 (x2 - 1))) ([] : List Int)) (List.getD x3 (Int.toNat x2) ([] : List Int)) x0 x1) fun r2 => (cond (decide (((List.length r2 : Nat) : Int) > 0)) (some (Sum.inr (x2, 0))) (some (Sum.inl (x0, x1, (IntKind.wrap .i64 (x2 + 1)), x3))))) none) none) (some (Sum.inr (0, 6))))
noncomputable def f_iFirstClash_run8 (x : (Int × Int × Int × (List (List Int)))) : Option (Int × Int) := iter (fun x => f_iFirstClash_n8 x.1 x.2.1 x.2.2.1 x.2.2.2) FU x
noncomputable def f_iFirstClash_G8 (r : List A) (x : (Int × Int × Int × (List (List Int)))) : Prop := f_iFirstClash_L r 8 (f_iFirstClash_s8 x.1 x.2.1 x.2.2.1 x.2.2.2) = some r
noncomputable def f_iFirstClash_S8 (r : List A) : (Int × Int) → Prop := fun v => r = l_iFirstClash v
theorem f_iFirstClash_go8 (r : List A) : ∀ x, sem (f_iFirstClash_S8 r) (f_iFirstClash_run8 x) → f_iFirstClash_G8 r x :=
  fun x => iter_sound (step := fun x => f_iFirstClash_n8 x.1 x.2.1 x.2.2.1 x.2.2.2) (fun x h => by
    unfold f_iFirstClash_n8 at h
    exact f_iFirstClash_step8 x.1 x.2.1 x.2.2.1 x.2.2.2 r ((sem_cond h (fun h => (sem_cond h (fun h => (sem_cond h (fun h => (sem_bind h fun r2 h => (sem_cond h (fun h => sem_got h fun q => some_eq q) (fun h => sem_got h fun q => q)))) (fun h => sem_none h))) (fun h => sem_none h))) (fun h => sem_got h fun q => some_eq q)))) FU x
noncomputable def s_iFirstClash (a0 : (List (List Int))) (a1 : Int) (a2 : Int) : Option (Int × Int) := (Option.bind (s_gContainsFunc_Row_a a0) fun r1 => (cond (s_iisSeam a1) (cond ((s_icodeOf (!r1) (s_iwithin a2 0 2000)) != 0) (some (0, (s_icodeOf (!r1) (s_iwithin a2 0 2000)))) (cond (decide (((List.length a0 : Nat) : Int) > 20)) (some (0, 3)) (f_iFirstClash_run8 (a1, a2, 1, a0)))) (cond ((s_icodeOf (!r1) false) != 0) (some (0, (s_icodeOf (!r1) false))) (cond (decide (((List.length a0 : Nat) : Int) > 20)) (some (0, 3)) (f_iFirstClash_run8 (a1, a2, 1, a0))))))
theorem f_iFirstClash_top (a0 : (List (List Int))) (a1 : Int) (a2 : Int) (r : List A) : ev f_iFirstClash_X (lpc (cnOf f_iFirstClash_LV) (f_iFirstClash_L r)) f_iFirstClash_c (K0 TT f_iFirstClash_rv) (enter [.lst (.one (.ls .i16)) a0, .v (.int .i64 a1), .v (.int .i64 a2)]) = (Option.bind (s_gContainsFunc_Row_a a0) fun r1 => (cond (s_iisSeam a1) (cond ((s_icodeOf (!r1) (s_iwithin a2 0 2000)) != 0) (some [.v (.int .i64 0), .v (.int .i64 (s_icodeOf (!r1) (s_iwithin a2 0 2000)))]) (cond (decide (((List.length a0 : Nat) : Int) > 20)) (some [.v (.int .i64 0), .v (.int .i64 3)]) (f_iFirstClash_L r 8 (f_iFirstClash_s8 a1 a2 1 a0)))) (cond ((s_icodeOf (!r1) false) != 0) (some [.v (.int .i64 0), .v (.int .i64 (s_icodeOf (!r1) false))]) (cond (decide (((List.length a0 : Nat) : Int) > 20)) (some [.v (.int .i64 0), .v (.int .i64 3)]) (f_iFirstClash_L r 8 (f_iFirstClash_s8 a1 a2 1 a0)))))) := by kernel_rfl
theorem s_iFirstClash_ok (a0 : (List (List Int))) (a1 : Int) (a2 : Int) (v : (Int × Int)) (h : s_iFirstClash a0 a1 a2 = some v) : (Option.bind (s_gContainsFunc_Row_a a0) fun r1 => (cond (s_iisSeam a1) (cond ((s_icodeOf (!r1) (s_iwithin a2 0 2000)) != 0) (some [.v (.int .i64 0), .v (.int .i64 (s_icodeOf (!r1) (s_iwithin a2 0 2000)))]) (cond (decide (((List.length a0 : Nat) : Int) > 20)) (some [.v (.int .i64 0), .v (.int .i64 3)]) (f_iFirstClash_L (l_iFirstClash v) 8 (f_iFirstClash_s8 a1 a2 1 a0)))) (cond ((s_icodeOf (!r1) false) != 0) (some [.v (.int .i64 0), .v (.int .i64 (s_icodeOf (!r1) false))]) (cond (decide (((List.length a0 : Nat) : Int) > 20)) (some [.v (.int .i64 0), .v (.int .i64 3)]) (f_iFirstClash_L (l_iFirstClash v) 8 (f_iFirstClash_s8 a1 a2 1 a0)))))) = some (l_iFirstClash v) := by
  unfold s_iFirstClash at h
  have go : ∀ r, sem (fun v => r = l_iFirstClash v) ((Option.bind (s_gContainsFunc_Row_a a0) fun r1 => (cond (s_iisSeam a1) (cond ((s_icodeOf (!r1) (s_iwithin a2 0 2000)) != 0) (some (0, (s_icodeOf (!r1) (s_iwithin a2 0 2000)))) (cond (decide (((List.length a0 : Nat) : Int) > 20)) (some (0, 3)) (f_iFirstClash_run8 (a1, a2, 1, a0)))) (cond ((s_icodeOf (!r1) false) != 0) (some (0, (s_icodeOf (!r1) false))) (cond (decide (((List.length a0 : Nat) : Int) > 20)) (some (0, 3)) (f_iFirstClash_run8 (a1, a2, 1, a0))))))) → (Option.bind (s_gContainsFunc_Row_a a0) fun r1 => (cond (s_iisSeam a1) (cond ((s_icodeOf (!r1) (s_iwithin a2 0 2000)) != 0) (some [.v (.int .i64 0), .v (.int .i64 (s_icodeOf (!r1) (s_iwithin a2 0 2000)))]) (cond (decide (((List.length a0 : Nat) : Int) > 20)) (some [.v (.int .i64 0), .v (.int .i64 3)]) (f_iFirstClash_L r 8 (f_iFirstClash_s8 a1 a2 1 a0)))) (cond ((s_icodeOf (!r1) false) != 0) (some [.v (.int .i64 0), .v (.int .i64 (s_icodeOf (!r1) false))]) (cond (decide (((List.length a0 : Nat) : Int) > 20)) (some [.v (.int .i64 0), .v (.int .i64 3)]) (f_iFirstClash_L r 8 (f_iFirstClash_s8 a1 a2 1 a0)))))) = some r := fun r h => (sem_bind h fun r1 h => (sem_cond h (fun h => (sem_cond h (fun h => sem_got h fun q => some_eq q) (fun h => (sem_cond h (fun h => sem_got h fun q => some_eq q) (fun h => f_iFirstClash_go8 r _ h))))) (fun h => (sem_cond h (fun h => sem_got h fun q => some_eq q) (fun h => (sem_cond h (fun h => sem_got h fun q => some_eq q) (fun h => f_iFirstClash_go8 r _ h)))))))
  exact go (l_iFirstClash v) ⟨v, h, rfl⟩
noncomputable def c_iFirstClash : List A → ACall
  | [.lst (.one (.ls .i16)) a0, .v (.int .i64 a1), .v (.int .i64 a2)] => ⟨(Int × Int), s_iFirstClash a0 a1 a2, fun r => .tup [.v (.int .i64 r.1), .v (.int .i64 r.2)]⟩
  | _ => ACall.fail
theorem f_iFirstClash_sound : Sound Tryd.prog 20 c_iFirstClash := by
  refine sound_good f_iFirstClash_ctx f_iFirstClash_LV 3 Tryd.func20 (c := f_iFirstClash_c) (by kernel_rfl) (rv := f_iFirstClash_rv) (by kernel_rfl) (by kernel_rfl) (by kernel_rfl) (by kernel_rfl) fun rs => ?_
  unfold c_iFirstClash
  split
  · rename_i a0 a1 a2; intro v h; exact ⟨rfl, l_iFirstClash v, rfl, (f_iFirstClash_top a0 a1 a2 _).trans (s_iFirstClash_ok a0 a1 a2 v h)⟩
  · intro v h; cases h
end Go.RR
