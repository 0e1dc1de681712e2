/- Hands that are needed: the law. -/
import Derived.Test.YtkohnhkehedflaaVr
set_option linter.unusedVariables false
set_option linter.unusedSimpArgs false
set_option linter.unusedSectionVars false
set_option maxRecDepth 100000
namespace Go.RR
open Go Go.Proofs

/-! ### function 26: loop.example/g01322/spec.HandsNeeded -/
noncomputable def f_sHandsNeeded_c : Code := match Try.f26.body with | some c => c | none => .skip
noncomputable def f_sHandsNeeded_X : Ctx := ⟨TT, phiOf [(105, c_sl07Ok), (106, c_sl07Best), (93, c_sl00In)], noPsi, noXi⟩
def f_sHandsNeeded_LV : List (Nat × Keep) := [(6, ([0, 1, 2, 8], [], []))]
def f_sHandsNeeded_rv : List ResultVar := [.tmp 6, .tmp 7]
noncomputable def f_sHandsNeeded_L (r : List A) : Nat → AS → Option (List A) := L f_sHandsNeeded_X (cnOf f_sHandsNeeded_LV) f_sHandsNeeded_c (K0 TT f_sHandsNeeded_rv) r
theorem f_sHandsNeeded_ctx : CtxOK Try.prog f_sHandsNeeded_X := ctx_of tab mix ⟨⟨Try.call105, f_sl07Ok_sound⟩, ⟨Try.call106, f_sl07Best_sound⟩, ⟨Try.call93, f_sl00In_sound⟩, trivial⟩
noncomputable def f_sHandsNeeded_s6 (x0 : Int) (x1 : Int) (x2 : Int) (x3 : (List (Int × Int))) : AS := ⟨[(0, .a (.sl 0)), (1, .a (.v (.int .i64 x0))), (2, .a (.v (.int .i64 x1))), (8, .a (.v (.int .i64 x2)))], [(0, some ⟨false, .arr (.st [(.i .i8), (.i .u16)]) x3⟩)], 1⟩
noncomputable def l_sHandsNeeded (r : (Int × Int)) : List A := [.v (.int .i64 r.1), .v (.int .i64 r.2)]
theorem f_sHandsNeeded_step6 (x0 : Int) (x1 : Int) (x2 : Int) (x3 : (List (Int × Int))) (r : List A) (h : (cond (decide (x2 ≤ 4)) (Option.bind (s_sl07Best x3 x2 x1) fun r2 => (cond (r2.2.2 != 0) (some [.v (.int .i64 0), .v (.int .i64 r2.2.2)]) (cond (decide (r2.2.1 ≤ x0)) (some [.v (.int .i64 x2), .v (.int .i64 0)]) (f_sHandsNeeded_L r 6 (f_sHandsNeeded_s6 x0 x1 (IntKind.wrap .i64 (x2 + 1)) x3))))) (some [.v (.int .i64 0), .v (.int .i64 6)])) = some r) : f_sHandsNeeded_L r 6 (f_sHandsNeeded_s6 x0 x1 x2 x3) = some r :=
  step_of' h (by kernel_rfl)
noncomputable def f_sHandsNeeded_n6 (x0 : Int) (x1 : Int) (x2 : Int) (x3 : (List (Int × Int))) : Option ((Int × Int × Int × (List (Int × Int))) ⊕ (Int × Int)) := (cond (decide (x2 ≤ 4)) (Option.bind (s_sl07Best x3 x2 x1) fun r2 => (cond (r2.2.2 != 0) (some (Sum.inr (0, (r2.2.2)))) (cond (decide (r2.2.1 ≤ x0)) (some (Sum.inr (x2, 0))) (some (Sum.inl (x0, x1, (IntKind.wrap .i64 (x2 + 1)), x3)))))) (some (Sum.inr (0, 6))))
noncomputable def f_sHandsNeeded_run6 (x : (Int × Int × Int × (List (Int × Int)))) : Option (Int × Int) := iter (fun x => f_sHandsNeeded_n6 x.1 x.2.1 x.2.2.1 x.2.2.2) FU x
noncomputable def f_sHandsNeeded_G6 (r : List A) (x : (Int × Int × Int × (List (Int × Int)))) : Prop := f_sHandsNeeded_L r 6 (f_sHandsNeeded_s6 x.1 x.2.1 x.2.2.1 x.2.2.2) = some r
noncomputable def f_sHandsNeeded_S6 (r : List A) : (Int × Int) → Prop := fun v => r = l_sHandsNeeded v
theorem f_sHandsNeeded_go6 (r : List A) : ∀ x, sem (f_sHandsNeeded_S6 r) (f_sHandsNeeded_run6 x) → f_sHandsNeeded_G6 r x :=
  fun x => iter_sound (step := fun x => f_sHandsNeeded_n6 x.1 x.2.1 x.2.2.1 x.2.2.2) (fun x h => by
    unfold f_sHandsNeeded_n6 at h
    exact f_sHandsNeeded_step6 x.1 x.2.1 x.2.2.1 x.2.2.2 r ((sem_cond h (fun h => (sem_bind h fun r2 h => (sem_cond h (fun h => sem_got h fun q => some_eq q) (fun h => (sem_cond h (fun h => sem_got h fun q => some_eq q) (fun h => sem_got h fun q => q)))))) (fun h => sem_got h fun q => some_eq q)))) FU x
noncomputable def s_sHandsNeeded (a0 : (List (Int × Int))) (a1 : Int) (a2 : Int) : Option (Int × Int) := (Option.bind (s_sl07Ok a0) fun r1 => (cond (!r1) (some (0, 1)) (cond (!(s_sl00In a1 0 1000)) (some (0, 2)) (cond (!(s_sl00In a2 0 20000)) (some (0, 2)) (f_sHandsNeeded_run6 (a1, a2, 1, a0))))))
theorem f_sHandsNeeded_top (a0 : (List (Int × Int))) (a1 : Int) (a2 : Int) (r : List A) : ev f_sHandsNeeded_X (lpc (cnOf f_sHandsNeeded_LV) (f_sHandsNeeded_L r)) f_sHandsNeeded_c (K0 TT f_sHandsNeeded_rv) (enter [.lst (.st [(.i .i8), (.i .u16)]) a0, .v (.int .i64 a1), .v (.int .i64 a2)]) = (Option.bind (s_sl07Ok a0) fun r1 => (cond (!r1) (some [.v (.int .i64 0), .v (.int .i64 1)]) (cond (!(s_sl00In a1 0 1000)) (some [.v (.int .i64 0), .v (.int .i64 2)]) (cond (!(s_sl00In a2 0 20000)) (some [.v (.int .i64 0), .v (.int .i64 2)]) (f_sHandsNeeded_L r 6 (f_sHandsNeeded_s6 a1 a2 1 a0)))))) := by kernel_rfl
theorem s_sHandsNeeded_ok (a0 : (List (Int × Int))) (a1 : Int) (a2 : Int) (v : (Int × Int)) (h : s_sHandsNeeded a0 a1 a2 = some v) : (Option.bind (s_sl07Ok a0) fun r1 => (cond (!r1) (some [.v (.int .i64 0), .v (.int .i64 1)]) (cond (!(s_sl00In a1 0 1000)) (some [.v (.int .i64 0), .v (.int .i64 2)]) (cond (!(s_sl00In a2 0 20000)) (some [.v (.int .i64 0), .v (.int .i64 2)]) (f_sHandsNeeded_L (l_sHandsNeeded v) 6 (f_sHandsNeeded_s6 a1 a2 1 a0)))))) = some (l_sHandsNeeded v) := by
  unfold s_sHandsNeeded at h
  have go : ∀ r, sem (fun v => r = l_sHandsNeeded v) ((Option.bind (s_sl07Ok a0) fun r1 => (cond (!r1) (some (0, 1)) (cond (!(s_sl00In a1 0 1000)) (some (0, 2)) (cond (!(s_sl00In a2 0 20000)) (some (0, 2)) (f_sHandsNeeded_run6 (a1, a2, 1, a0))))))) → (Option.bind (s_sl07Ok a0) fun r1 => (cond (!r1) (some [.v (.int .i64 0), .v (.int .i64 1)]) (cond (!(s_sl00In a1 0 1000)) (some [.v (.int .i64 0), .v (.int .i64 2)]) (cond (!(s_sl00In a2 0 20000)) (some [.v (.int .i64 0), .v (.int .i64 2)]) (f_sHandsNeeded_L r 6 (f_sHandsNeeded_s6 a1 a2 1 a0)))))) = some r := fun r h => (sem_bind h fun r1 h => (sem_cond h (fun h => sem_got h fun q => some_eq q) (fun h => (sem_cond h (fun h => sem_got h fun q => some_eq q) (fun h => (sem_cond h (fun h => sem_got h fun q => some_eq q) (fun h => f_sHandsNeeded_go6 r _ h)))))))
  exact go (l_sHandsNeeded v) ⟨v, h, rfl⟩
noncomputable def c_sHandsNeeded : List A → ACall
  | [.lst (.st [(.i .i8), (.i .u16)]) a0, .v (.int .i64 a1), .v (.int .i64 a2)] => ⟨(Int × Int), s_sHandsNeeded a0 a1 a2, fun r => .tup [.v (.int .i64 r.1), .v (.int .i64 r.2)]⟩
  | _ => ACall.fail
theorem f_sHandsNeeded_sound : Sound Try.prog 26 c_sHandsNeeded := by
  refine sound_good f_sHandsNeeded_ctx f_sHandsNeeded_LV 3 Try.func26 (c := f_sHandsNeeded_c) (by kernel_rfl) (rv := f_sHandsNeeded_rv) (by kernel_rfl) (by kernel_rfl) (by kernel_rfl) (by kernel_rfl) fun rs => ?_
  unfold c_sHandsNeeded
  split
  · rename_i a0 a1 a2; intro v h; exact ⟨rfl, l_sHandsNeeded v, rfl, (f_sHandsNeeded_top a0 a1 a2 _).trans (s_sHandsNeeded_ok a0 a1 a2 v h)⟩
  · intro v h; cases h

/-! ### function 28: loop.example/g01322/impl.HandsNeeded -/
noncomputable def f_iHandsNeeded_c : Code := match Try.f28.body with | some c => c | none => .skip
noncomputable def f_iHandsNeeded_X : Ctx := ⟨TT, phiOf [(108, c_iValidJobs), (109, c_ibest), (91, c_icodeOf), (92, c_iwithin)], noPsi, noXi⟩
def f_iHandsNeeded_LV : List (Nat × Keep) := [(5, ([0, 1, 2, 9], [], []))]
def f_iHandsNeeded_rv : List ResultVar := [.tmp 6, .tmp 7]
noncomputable def f_iHandsNeeded_L (r : List A) : Nat → AS → Option (List A) := L f_iHandsNeeded_X (cnOf f_iHandsNeeded_LV) f_iHandsNeeded_c (K0 TT f_iHandsNeeded_rv) r
theorem f_iHandsNeeded_ctx : CtxOK Try.prog f_iHandsNeeded_X := ctx_of tab mix ⟨⟨Try.call108, f_iValidJobs_sound⟩, ⟨Try.call109, f_ibest_sound⟩, ⟨Try.call91, f_icodeOf_sound⟩, ⟨Try.call92, f_iwithin_sound⟩, trivial⟩
noncomputable def f_iHandsNeeded_s5 (x0 : Int) (x1 : Int) (x2 : Int) (x3 : (List (Int × Int))) : AS := ⟨[(0, .a (.sl 0)), (1, .a (.v (.int .i64 x0))), (2, .a (.v (.int .i64 x1))), (9, .a (.v (.int .i64 x2)))], [(0, some ⟨false, .arr (.st [(.i .i8), (.i .u16)]) x3⟩)], 1⟩
noncomputable def l_iHandsNeeded (r : (Int × Int)) : List A := [.v (.int .i64 r.1), .v (.int .i64 r.2)]
theorem f_iHandsNeeded_step5 (x0 : Int) (x1 : Int) (x2 : Int) (x3 : (List (Int × Int))) (r : List A) (h : (cond (decide (x2 ≤ 4)) (Option.bind (s_ibest x3 x2 x1) fun r2 => (cond (!r2.2.2) (some [.v (.int .i64 0), .v (.int .i64 7)]) (cond (decide (r2.2.1 ≤ x0)) (some [.v (.int .i64 x2), .v (.int .i64 0)]) (f_iHandsNeeded_L r 5 (f_iHandsNeeded_s5 x0 x1 (IntKind.wrap .i64 (x2 + 1)) x3))))) (some [.v (.int .i64 0), .v (.int .i64 6)])) = some r) : f_iHandsNeeded_L r 5 (f_iHandsNeeded_s5 x0 x1 x2 x3) = some r :=
  step_of' h (by kernel_rfl)
noncomputable def f_iHandsNeeded_n5 (x0 : Int) (x1 : Int) (x2 : Int) (x3 : (List (Int × Int))) : Option ((Int × Int × Int × (List (Int × Int))) ⊕ (Int × Int)) := (cond (decide (x2 ≤ 4)) (Option.bind (s_ibest x3 x2 x1) fun r2 => (cond (!r2.2.2) (some (Sum.inr (0, 7))) (cond (decide (r2.2.1 ≤ x0)) (some (Sum.inr (x2, 0))) (some (Sum.inl (x0, x1, (IntKind.wrap .i64 (x2 + 1)), x3)))))) (some (Sum.inr (0, 6))))
noncomputable def f_iHandsNeeded_run5 (x : (Int × Int × Int × (List (Int × Int)))) : Option (Int × Int) := iter (fun x => f_iHandsNeeded_n5 x.1 x.2.1 x.2.2.1 x.2.2.2) FU x
noncomputable def f_iHandsNeeded_G5 (r : List A) (x : (Int × Int × Int × (List (Int × Int)))) : Prop := f_iHandsNeeded_L r 5 (f_iHandsNeeded_s5 x.1 x.2.1 x.2.2.1 x.2.2.2) = some r
noncomputable def f_iHandsNeeded_S5 (r : List A) : (Int × Int) → Prop := fun v => r = l_iHandsNeeded v
theorem f_iHandsNeeded_go5 (r : List A) : ∀ x, sem (f_iHandsNeeded_S5 r) (f_iHandsNeeded_run5 x) → f_iHandsNeeded_G5 r x :=
  fun x => iter_sound (step := fun x => f_iHandsNeeded_n5 x.1 x.2.1 x.2.2.1 x.2.2.2) (fun x h => by
    unfold f_iHandsNeeded_n5 at h
    exact f_iHandsNeeded_step5 x.1 x.2.1 x.2.2.1 x.2.2.2 r ((sem_cond h (fun h => (sem_bind h fun r2 h => (sem_cond h (fun h => sem_got h fun q => some_eq q) (fun h => (sem_cond h (fun h => sem_got h fun q => some_eq q) (fun h => sem_got h fun q => q)))))) (fun h => sem_got h fun q => some_eq q)))) FU x
noncomputable def s_iHandsNeeded (a0 : (List (Int × Int))) (a1 : Int) (a2 : Int) : Option (Int × Int) := (Option.bind (s_iValidJobs a0) fun r1 => (cond (s_iwithin a1 0 1000) (cond ((s_icodeOf r1 (s_iwithin a2 0 20000)) != 0) (some (0, (s_icodeOf r1 (s_iwithin a2 0 20000)))) (f_iHandsNeeded_run5 (a1, a2, 1, a0))) (cond ((s_icodeOf r1 false) != 0) (some (0, (s_icodeOf r1 false))) (f_iHandsNeeded_run5 (a1, a2, 1, a0)))))
theorem f_iHandsNeeded_top (a0 : (List (Int × Int))) (a1 : Int) (a2 : Int) (r : List A) : ev f_iHandsNeeded_X (lpc (cnOf f_iHandsNeeded_LV) (f_iHandsNeeded_L r)) f_iHandsNeeded_c (K0 TT f_iHandsNeeded_rv) (enter [.lst (.st [(.i .i8), (.i .u16)]) a0, .v (.int .i64 a1), .v (.int .i64 a2)]) = (Option.bind (s_iValidJobs a0) fun r1 => (cond (s_iwithin a1 0 1000) (cond ((s_icodeOf r1 (s_iwithin a2 0 20000)) != 0) (some [.v (.int .i64 0), .v (.int .i64 (s_icodeOf r1 (s_iwithin a2 0 20000)))]) (f_iHandsNeeded_L r 5 (f_iHandsNeeded_s5 a1 a2 1 a0))) (cond ((s_icodeOf r1 false) != 0) (some [.v (.int .i64 0), .v (.int .i64 (s_icodeOf r1 false))]) (f_iHandsNeeded_L r 5 (f_iHandsNeeded_s5 a1 a2 1 a0))))) := by kernel_rfl
theorem s_iHandsNeeded_ok (a0 : (List (Int × Int))) (a1 : Int) (a2 : Int) (v : (Int × Int)) (h : s_iHandsNeeded a0 a1 a2 = some v) : (Option.bind (s_iValidJobs a0) fun r1 => (cond (s_iwithin a1 0 1000) (cond ((s_icodeOf r1 (s_iwithin a2 0 20000)) != 0) (some [.v (.int .i64 0), .v (.int .i64 (s_icodeOf r1 (s_iwithin a2 0 20000)))]) (f_iHandsNeeded_L (l_iHandsNeeded v) 5 (f_iHandsNeeded_s5 a1 a2 1 a0))) (cond ((s_icodeOf r1 false) != 0) (some [.v (.int .i64 0), .v (.int .i64 (s_icodeOf r1 false))]) (f_iHandsNeeded_L (l_iHandsNeeded v) 5 (f_iHandsNeeded_s5 a1 a2 1 a0))))) = some (l_iHandsNeeded v) := by
  unfold s_iHandsNeeded at h
  have go : ∀ r, sem (fun v => r = l_iHandsNeeded v) ((Option.bind (s_iValidJobs a0) fun r1 => (cond (s_iwithin a1 0 1000) (cond ((s_icodeOf r1 (s_iwithin a2 0 20000)) != 0) (some (0, (s_icodeOf r1 (s_iwithin a2 0 20000)))) (f_iHandsNeeded_run5 (a1, a2, 1, a0))) (cond ((s_icodeOf r1 false) != 0) (some (0, (s_icodeOf r1 false))) (f_iHandsNeeded_run5 (a1, a2, 1, a0)))))) → (Option.bind (s_iValidJobs a0) fun r1 => (cond (s_iwithin a1 0 1000) (cond ((s_icodeOf r1 (s_iwithin a2 0 20000)) != 0) (some [.v (.int .i64 0), .v (.int .i64 (s_icodeOf r1 (s_iwithin a2 0 20000)))]) (f_iHandsNeeded_L r 5 (f_iHandsNeeded_s5 a1 a2 1 a0))) (cond ((s_icodeOf r1 false) != 0) (some [.v (.int .i64 0), .v (.int .i64 (s_icodeOf r1 false))]) (f_iHandsNeeded_L r 5 (f_iHandsNeeded_s5 a1 a2 1 a0))))) = some r := fun r h => (sem_bind h fun r1 h => (sem_cond h (fun h => (sem_cond h (fun h => sem_got h fun q => some_eq q) (fun h => f_iHandsNeeded_go5 r _ h))) (fun h => (sem_cond h (fun h => sem_got h fun q => some_eq q) (fun h => f_iHandsNeeded_go5 r _ h)))))
  exact go (l_iHandsNeeded v) ⟨v, h, rfl⟩
noncomputable def c_iHandsNeeded : List A → ACall
  | [.lst (.st [(.i .i8), (.i .u16)]) a0, .v (.int .i64 a1), .v (.int .i64 a2)] => ⟨(Int × Int), s_iHandsNeeded a0 a1 a2, fun r => .tup [.v (.int .i64 r.1), .v (.int .i64 r.2)]⟩
  | _ => ACall.fail
theorem f_iHandsNeeded_sound : Sound Try.prog 28 c_iHandsNeeded := by
  refine sound_good f_iHandsNeeded_ctx f_iHandsNeeded_LV 3 Try.func28 (c := f_iHandsNeeded_c) (by kernel_rfl) (rv := f_iHandsNeeded_rv) (by kernel_rfl) (by kernel_rfl) (by kernel_rfl) (by kernel_rfl) fun rs => ?_
  unfold c_iHandsNeeded
  split
  · rename_i a0 a1 a2; intro v h; exact ⟨rfl, l_iHandsNeeded v, rfl, (f_iHandsNeeded_top a0 a1 a2 _).trans (s_iHandsNeeded_ok a0 a1 a2 v h)⟩
  · intro v h; cases h

/-! ### function 4: loop.example/g01322/laws.FnExactHandsNeeded -/
noncomputable def f_wFnExactHandsNeeded_c : Code := match Try.f4.body with | some c => c | none => .skip
noncomputable def f_wFnExactHandsNeeded_X : Ctx := ⟨TT, phiOf [(25, c_wszJobS), (26, c_sHandsNeeded), (27, c_wtoJobS), (28, c_iHandsNeeded), (29, c_weqJobS)], noPsi, noXi⟩
def f_wFnExactHandsNeeded_LV : List (Nat × Keep) := []
def f_wFnExactHandsNeeded_rv : List ResultVar := [.tmp 6]
noncomputable def f_wFnExactHandsNeeded_L (r : List A) : Nat → AS → Option (List A) := L f_wFnExactHandsNeeded_X (cnOf f_wFnExactHandsNeeded_LV) f_wFnExactHandsNeeded_c (K0 TT f_wFnExactHandsNeeded_rv) r
theorem f_wFnExactHandsNeeded_ctx : CtxOK Try.prog f_wFnExactHandsNeeded_X := ctx_of tab mix ⟨⟨Try.call25, f_wszJobS_sound⟩, ⟨Try.call26, f_sHandsNeeded_sound⟩, ⟨Try.call27, f_wtoJobS_sound⟩, ⟨Try.call28, f_iHandsNeeded_sound⟩, ⟨Try.call29, f_weqJobS_sound⟩, trivial⟩
noncomputable def s_wFnExactHandsNeeded (a0 : (List (Int × Int))) (a1 : Int) (a2 : Int) : Option Bool := (cond (decide ((s_wszJobS a0 1048576) < 0)) (some true) (Option.bind (s_wtoJobS a0) fun r1 => (Option.bind (s_sHandsNeeded r1 a1 a2) fun r2 => (Option.bind (s_wtoJobS a0) fun r3 => (Option.bind (s_iHandsNeeded r3 a1 a2) fun r4 => (cond (r4.1 != r2.1) (some false) (cond (r4.2 != r2.2) (some false) (Option.bind (s_wtoJobS a0) fun r5 => (Option.bind (s_weqJobS r3 r5) fun r6 => (cond (!r6) (some false) (some true)))))))))))
theorem f_wFnExactHandsNeeded_top (a0 : (List (Int × Int))) (a1 : Int) (a2 : Int) (r : List A) : ev f_wFnExactHandsNeeded_X (lpc (cnOf f_wFnExactHandsNeeded_LV) (f_wFnExactHandsNeeded_L r)) f_wFnExactHandsNeeded_c (K0 TT f_wFnExactHandsNeeded_rv) (enter [.lst (.st [(.i .i8), (.i .u16)]) a0, .v (.int .i64 a1), .v (.int .i64 a2)]) = (cond (decide ((s_wszJobS a0 1048576) < 0)) (some [.v (.bool true)]) (Option.bind (s_wtoJobS a0) fun r1 => (Option.bind (s_sHandsNeeded r1 a1 a2) fun r2 => (Option.bind (s_wtoJobS a0) fun r3 => (Option.bind (s_iHandsNeeded r3 a1 a2) fun r4 => (cond (r4.1 != r2.1) (some [.v (.bool false)]) (cond (r4.2 != r2.2) (some [.v (.bool false)]) (Option.bind (s_wtoJobS a0) fun r5 => (Option.bind (s_weqJobS r3 r5) fun r6 => (cond (!r6) (some [.v (.bool false)]) (some [.v (.bool true)]))))))))))) := by kernel_rfl
noncomputable def l_wFnExactHandsNeeded (r : Bool) : List A := [.v (.bool r)]
theorem s_wFnExactHandsNeeded_ok (a0 : (List (Int × Int))) (a1 : Int) (a2 : Int) (v : Bool) (h : s_wFnExactHandsNeeded a0 a1 a2 = some v) : (cond (decide ((s_wszJobS a0 1048576) < 0)) (some [.v (.bool true)]) (Option.bind (s_wtoJobS a0) fun r1 => (Option.bind (s_sHandsNeeded r1 a1 a2) fun r2 => (Option.bind (s_wtoJobS a0) fun r3 => (Option.bind (s_iHandsNeeded r3 a1 a2) fun r4 => (cond (r4.1 != r2.1) (some [.v (.bool false)]) (cond (r4.2 != r2.2) (some [.v (.bool false)]) (Option.bind (s_wtoJobS a0) fun r5 => (Option.bind (s_weqJobS r3 r5) fun r6 => (cond (!r6) (some [.v (.bool false)]) (some [.v (.bool true)]))))))))))) = some (l_wFnExactHandsNeeded v) := by
  have e : (cond (decide ((s_wszJobS a0 1048576) < 0)) (some [.v (.bool true)]) (Option.bind (s_wtoJobS a0) fun r1 => (Option.bind (s_sHandsNeeded r1 a1 a2) fun r2 => (Option.bind (s_wtoJobS a0) fun r3 => (Option.bind (s_iHandsNeeded r3 a1 a2) fun r4 => (cond (r4.1 != r2.1) (some [.v (.bool false)]) (cond (r4.2 != r2.2) (some [.v (.bool false)]) (Option.bind (s_wtoJobS a0) fun r5 => (Option.bind (s_weqJobS r3 r5) fun r6 => (cond (!r6) (some [.v (.bool false)]) (some [.v (.bool true)]))))))))))) = Option.map l_wFnExactHandsNeeded (s_wFnExactHandsNeeded a0 a1 a2) := by
    unfold s_wFnExactHandsNeeded
    exact (cond_app (Option.map l_wFnExactHandsNeeded) rfl (bind_app fun _ => (bind_app fun _ => (bind_app fun _ => (bind_app fun _ => (cond_app (Option.map l_wFnExactHandsNeeded) rfl (cond_app (Option.map l_wFnExactHandsNeeded) rfl (bind_app fun _ => (bind_app fun _ => (cond_app (Option.map l_wFnExactHandsNeeded) rfl rfl))))))))))
  rw [e, h]; rfl
noncomputable def c_wFnExactHandsNeeded : List A → ACall
  | [.lst (.st [(.i .i8), (.i .u16)]) a0, .v (.int .i64 a1), .v (.int .i64 a2)] => ⟨Bool, s_wFnExactHandsNeeded a0 a1 a2, fun r => .one (.v (.bool r))⟩
  | _ => ACall.fail
theorem f_wFnExactHandsNeeded_sound : Sound Try.prog 4 c_wFnExactHandsNeeded := by
  refine sound_good f_wFnExactHandsNeeded_ctx f_wFnExactHandsNeeded_LV 3 Try.func4 (c := f_wFnExactHandsNeeded_c) (by kernel_rfl) (rv := f_wFnExactHandsNeeded_rv) (by kernel_rfl) (by kernel_rfl) (by kernel_rfl) (by kernel_rfl) fun rs => ?_
  unfold c_wFnExactHandsNeeded
  split
  · rename_i a0 a1 a2; intro v h; exact ⟨rfl, l_wFnExactHandsNeeded v, rfl, (f_wFnExactHandsNeeded_top a0 a1 a2 _).trans (s_wFnExactHandsNeeded_ok a0 a1 a2 v h)⟩
  · intro v h; cases h
end Go.RR
