/- Hands that are needed: the law. -/
import Derived.Test.YtkohnhkehedflaaVr
set_option linter.unusedVariables false
set_option linter.unusedSimpArgs false
set_option linter.unusedSectionVars false
set_option maxRecDepth 100000
namespace Go.RR
open Go Go.Proofs
noncomputable def f_q0e_c : Code := match Try.f26.body with | some c => c | none => .skip
noncomputable def f_q0e_X : Ctx := ⟨TT, phiOf [(105, c_q27), (106, c_q1j), (93, c_q25)], noPsi, noXi⟩
def f_q0e_LV : List (Nat × Keep) := [(6, ([0, 1, 2, 8], [], []))]
def f_q0e_rv : List ResultVar := [.tmp 6, .tmp 7]
noncomputable def f_q0e_L (r : List A) : Nat → AS → Option (List A) := L f_q0e_X (cnOf f_q0e_LV) f_q0e_c (K0 TT f_q0e_rv) r
theorem f_q0e_ctx : CtxOK Try.prog f_q0e_X := ctx_of tab mix ⟨⟨Try.call105, f_q27_sound⟩, ⟨Try.call106, f_q1j_sound⟩, ⟨Try.call93, f_q25_sound⟩, trivial⟩
noncomputable def f_q0e_s6 (x0 x1 x2 : Int) (x3 : List (Int × Int)) : AS := ⟨[(0, .a (.sl 0)), (1, .a (.v (.int .i64 x0))), (2, .a (.v (.int .i64 x1))), (8, .a (.v (.int .i64 x2)))], [(0, some ⟨false, .arr (.st [(.i .i8), (.i .u16)]) x3⟩)], 1⟩
noncomputable def l_q0e (r : (Int × Int)) : List A := [.v (.int .i64 r.1), .v (.int .i64 r.2)]
theorem f_q0e_step6 (x0 x1 x2 : Int) (x3 : List (Int × Int)) (r : List A) (h : (cond (decide (x2 ≤ 4)) (Option.bind (s_q1j x3 x2 x1) fun r2 => (cond (r2.2.2 != 0) (some [.v (.int .i64 0), .v (.int .i64 r2.2.2)]) (cond (decide (r2.2.1 ≤ x0)) (some [.v (.int .i64 x2), .v (.int .i64 0)]) (f_q0e_L r 6 (f_q0e_s6 x0 x1 (IntKind.wrap .i64 (x2 + 1)) x3))))) (some [.v (.int .i64 0), .v (.int .i64 6)])) = some r) : f_q0e_L r 6 (f_q0e_s6 x0 x1 x2 x3) = some r :=
 step_of' h (by kernel_rfl)
noncomputable def f_q0e_n6 (x0 x1 x2 : Int) (x3 : List (Int × Int)) : Option ((Int × Int × Int × (List (Int × Int))) ⊕ (Int × Int)) := (cond (decide (x2 ≤ 4)) (Option.bind (s_q1j x3 x2 x1) fun r2 => (cond (r2.2.2 != 0) (some (Sum.inr (0, (r2.2.2)))) (cond (decide (r2.2.1 ≤ x0)) (some (Sum.inr (x2, 0))) (some (Sum.inl (x0, x1, (IntKind.wrap .i64 (x2 + 1)), x3)))))) (some (Sum.inr (0, 6))))
noncomputable def f_q0e_run6 (x : (Int × Int × Int × (List (Int × Int)))) : Option (Int × Int) := iter (fun x => f_q0e_n6 x.1 x.2.1 x.2.2.1 x.2.2.2) FU x
noncomputable def f_q0e_G6 (r : List A) (x : (Int × Int × Int × (List (Int × Int)))) : Prop := f_q0e_L r 6 (f_q0e_s6 x.1 x.2.1 x.2.2.1 x.2.2.2) = some r
noncomputable def f_q0e_S6 (r : List A) : (Int × Int) → Prop := fun v => r = l_q0e v
theorem f_q0e_go6 (r : List A) : ∀ x, sem (f_q0e_S6 r) (f_q0e_run6 x) → f_q0e_G6 r x :=
 fun x => iter_sound (step := fun x => f_q0e_n6 x.1 x.2.1 x.2.2.1 x.2.2.2) (fun x h => by
  unfold f_q0e_n6 at h
  exact f_q0e_step6 x.1 x.2.1 x.2.2.1 x.2.2.2 r ((sem_cond h (fun h => (sem_bind h fun r2 h => (sem_cond h (fun h => sem_got h fun q => some_eq q) (fun h => (sem_cond h (fun h => sem_got h fun q => some_eq q) (fun h => sem_got h fun q => q)))))) (fun h => sem_got h fun q => some_eq q)))) FU x
noncomputable def s_q0e (a0 : List (Int × Int)) (a1 a2 : Int) : Option (Int × Int) := (Option.bind (s_q27 a0) fun r1 => (cond (!r1) (some (0, 1)) (cond (!(s_q25 a1 0 1000)) (some (0, 2)) (cond (!(s_q25 a2 0 20000)) (some (0, 2)) (f_q0e_run6 (a1, a2, 1, a0))))))
theorem f_q0e_top (a0 : List (Int × Int)) (a1 a2 : Int) (r : List A) : ev f_q0e_X (lpc (cnOf f_q0e_LV) (f_q0e_L r)) f_q0e_c (K0 TT f_q0e_rv) (enter [.lst (.st [(.i .i8), (.i .u16)]) a0, .v (.int .i64 a1), .v (.int .i64 a2)]) = (Option.bind (s_q27 a0) fun r1 => (cond (!r1) (some [.v (.int .i64 0), .v (.int .i64 1)]) (cond (!(s_q25 a1 0 1000)) (some [.v (.int .i64 0), .v (.int .i64 2)]) (cond (!(s_q25 a2 0 20000)) (some [.v (.int .i64 0), .v (.int .i64 2)]) (f_q0e_L r 6 (f_q0e_s6 a1 a2 1 a0)))))) := by kernel_rfl
theorem s_q0e_ok (a0 : List (Int × Int)) (a1 a2 : Int) (v : (Int × Int)) (h : s_q0e a0 a1 a2 = some v) : (Option.bind (s_q27 a0) fun r1 => (cond (!r1) (some [.v (.int .i64 0), .v (.int .i64 1)]) (cond (!(s_q25 a1 0 1000)) (some [.v (.int .i64 0), .v (.int .i64 2)]) (cond (!(s_q25 a2 0 20000)) (some [.v (.int .i64 0), .v (.int .i64 2)]) (f_q0e_L (l_q0e v) 6 (f_q0e_s6 a1 a2 1 a0)))))) = some (l_q0e v) := by
 unfold s_q0e at h
 have go : ∀ r, sem (fun v => r = l_q0e v) ((Option.bind (s_q27 a0) fun r1 => (cond (!r1) (some (0, 1)) (cond (!(s_q25 a1 0 1000)) (some (0, 2)) (cond (!(s_q25 a2 0 20000)) (some (0, 2)) (f_q0e_run6 (a1, a2, 1, a0))))))) → (Option.bind (s_q27 a0) fun r1 => (cond (!r1) (some [.v (.int .i64 0), .v (.int .i64 1)]) (cond (!(s_q25 a1 0 1000)) (some [.v (.int .i64 0), .v (.int .i64 2)]) (cond (!(s_q25 a2 0 20000)) (some [.v (.int .i64 0), .v (.int .i64 2)]) (f_q0e_L r 6 (f_q0e_s6 a1 a2 1 a0)))))) = some r := fun r h => (sem_bind h fun r1 h => (sem_cond h (fun h => sem_got h fun q => some_eq q) (fun h => (sem_cond h (fun h => sem_got h fun q => some_eq q) (fun h => (sem_cond h (fun h => sem_got h fun q => some_eq q) (fun h => f_q0e_go6 r _ h)))))))
 exact go (l_q0e v) ⟨v, h, rfl⟩
noncomputable def c_q0e : List A → ACall
 | [.lst (.st [(.i .i8), (.i .u16)]) a0, .v (.int .i64 a1), .v (.int .i64 a2)] => ⟨(Int × Int), s_q0e a0 a1 a2, fun r => .tup [.v (.int .i64 r.1), .v (.int .i64 r.2)]⟩
 | _ => ACall.fail
theorem f_q0e_sound : Sound Try.prog 26 c_q0e := by
 refine sound_good f_q0e_ctx f_q0e_LV 3 Try.func26 (c := f_q0e_c) (by kernel_rfl) (rv := f_q0e_rv) (by kernel_rfl) (by kernel_rfl) (by kernel_rfl) (by kernel_rfl) fun rs => ?_
 unfold c_q0e
 split
 ·rename_i a0 a1 a2; intro v h; exact ⟨rfl, l_q0e v, rfl, (f_q0e_top a0 a1 a2 _).trans (s_q0e_ok a0 a1 a2 v h)⟩
 ·intro v h; cases h
noncomputable def f_q0a_c : Code := match Try.f28.body with | some c => c | none => .skip
noncomputable def f_q0a_X : Ctx := ⟨TT, phiOf [(108, c_q0p), (109, c_q28), (91, c_q1t), (92, c_q1v)], noPsi, noXi⟩
def f_q0a_LV : List (Nat × Keep) := [(5, ([0, 1, 2, 9], [], []))]
def f_q0a_rv : List ResultVar := [.tmp 6, .tmp 7]
noncomputable def f_q0a_L (r : List A) : Nat → AS → Option (List A) := L f_q0a_X (cnOf f_q0a_LV) f_q0a_c (K0 TT f_q0a_rv) r
theorem f_q0a_ctx : CtxOK Try.prog f_q0a_X := ctx_of tab mix ⟨⟨Try.call108, f_q0p_sound⟩, ⟨Try.call109, f_q28_sound⟩, ⟨Try.call91, f_q1t_sound⟩, ⟨Try.call92, f_q1v_sound⟩, trivial⟩
noncomputable def f_q0a_s5 (x0 x1 x2 : Int) (x3 : List (Int × Int)) : AS := ⟨[(0, .a (.sl 0)), (1, .a (.v (.int .i64 x0))), (2, .a (.v (.int .i64 x1))), (9, .a (.v (.int .i64 x2)))], [(0, some ⟨false, .arr (.st [(.i .i8), (.i .u16)]) x3⟩)], 1⟩
noncomputable def l_q0a (r : (Int × Int)) : List A := [.v (.int .i64 r.1), .v (.int .i64 r.2)]
theorem f_q0a_step5 (x0 x1 x2 : Int) (x3 : List (Int × Int)) (r : List A) (h : (cond (decide (x2 ≤ 4)) (Option.bind (s_q28 x3 x2 x1) fun r2 => (cond (!r2.2.2) (some [.v (.int .i64 0), .v (.int .i64 7)]) (cond (decide (r2.2.1 ≤ x0)) (some [.v (.int .i64 x2), .v (.int .i64 0)]) (f_q0a_L r 5 (f_q0a_s5 x0 x1 (IntKind.wrap .i64 (x2 + 1)) x3))))) (some [.v (.int .i64 0), .v (.int .i64 6)])) = some r) : f_q0a_L r 5 (f_q0a_s5 x0 x1 x2 x3) = some r :=
 step_of' h (by kernel_rfl)
noncomputable def f_q0a_n5 (x0 x1 x2 : Int) (x3 : List (Int × Int)) : Option ((Int × Int × Int × (List (Int × Int))) ⊕ (Int × Int)) := (cond (decide (x2 ≤ 4)) (Option.bind (s_q28 x3 x2 x1) fun r2 => (cond (!r2.2.2) (some (Sum.inr (0, 7))) (cond (decide (r2.2.1 ≤ x0)) (some (Sum.inr (x2, 0))) (some (Sum.inl (x0, x1, (IntKind.wrap .i64 (x2 + 1)), x3)))))) (some (Sum.inr (0, 6))))
noncomputable def f_q0a_run5 (x : (Int × Int × Int × (List (Int × Int)))) : Option (Int × Int) := iter (fun x => f_q0a_n5 x.1 x.2.1 x.2.2.1 x.2.2.2) FU x
noncomputable def f_q0a_G5 (r : List A) (x : (Int × Int × Int × (List (Int × Int)))) : Prop := f_q0a_L r 5 (f_q0a_s5 x.1 x.2.1 x.2.2.1 x.2.2.2) = some r
noncomputable def f_q0a_S5 (r : List A) : (Int × Int) → Prop := fun v => r = l_q0a v
theorem f_q0a_go5 (r : List A) : ∀ x, sem (f_q0a_S5 r) (f_q0a_run5 x) → f_q0a_G5 r x :=
 fun x => iter_sound (step := fun x => f_q0a_n5 x.1 x.2.1 x.2.2.1 x.2.2.2) (fun x h => by
  unfold f_q0a_n5 at h
  exact f_q0a_step5 x.1 x.2.1 x.2.2.1 x.2.2.2 r ((sem_cond h (fun h => (sem_bind h fun r2 h => (sem_cond h (fun h => sem_got h fun q => some_eq q) (fun h => (sem_cond h (fun h => sem_got h fun q => some_eq q) (fun h => sem_got h fun q => q)))))) (fun h => sem_got h fun q => some_eq q)))) FU x
noncomputable def s_q0a (a0 : List (Int × Int)) (a1 a2 : Int) : Option (Int × Int) := (Option.bind (s_q0p a0) fun r1 => (cond (s_q1v a1 0 1000) (cond ((s_q1t r1 (s_q1v a2 0 20000)) != 0) (some (0, (s_q1t r1 (s_q1v a2 0 20000)))) (f_q0a_run5 (a1, a2, 1, a0))) (cond ((s_q1t r1 false) != 0) (some (0, (s_q1t r1 false))) (f_q0a_run5 (a1, a2, 1, a0)))))
theorem f_q0a_top (a0 : List (Int × Int)) (a1 a2 : Int) (r : List A) : ev f_q0a_X (lpc (cnOf f_q0a_LV) (f_q0a_L r)) f_q0a_c (K0 TT f_q0a_rv) (enter [.lst (.st [(.i .i8), (.i .u16)]) a0, .v (.int .i64 a1), .v (.int .i64 a2)]) = (Option.bind (s_q0p a0) fun r1 => (cond (s_q1v a1 0 1000) (cond ((s_q1t r1 (s_q1v a2 0 20000)) != 0) (some [.v (.int .i64 0), .v (.int .i64 (s_q1t r1 (s_q1v a2 0 20000)))]) (f_q0a_L r 5 (f_q0a_s5 a1 a2 1 a0))) (cond ((s_q1t r1 false) != 0) (some [.v (.int .i64 0), .v (.int .i64 (s_q1t r1 false))]) (f_q0a_L r 5 (f_q0a_s5 a1 a2 1 a0))))) := by kernel_rfl
theorem s_q0a_ok (a0 : List (Int × Int)) (a1 a2 : Int) (v : (Int × Int)) (h : s_q0a a0 a1 a2 = some v) : (Option.bind (s_q0p a0) fun r1 => (cond (s_q1v a1 0 1000) (cond ((s_q1t r1 (s_q1v a2 0 20000)) != 0) (some [.v (.int .i64 0), .v (.int .i64 (s_q1t r1 (s_q1v a2 0 20000)))]) (f_q0a_L (l_q0a v) 5 (f_q0a_s5 a1 a2 1 a0))) (cond ((s_q1t r1 false) != 0) (some [.v (.int .i64 0), .v (.int .i64 (s_q1t r1 false))]) (f_q0a_L (l_q0a v) 5 (f_q0a_s5 a1 a2 1 a0))))) = some (l_q0a v) := by
 unfold s_q0a at h
 have go : ∀ r, sem (fun v => r = l_q0a v) ((Option.bind (s_q0p a0) fun r1 => (cond (s_q1v a1 0 1000) (cond ((s_q1t r1 (s_q1v a2 0 20000)) != 0) (some (0, (s_q1t r1 (s_q1v a2 0 20000)))) (f_q0a_run5 (a1, a2, 1, a0))) (cond ((s_q1t r1 false) != 0) (some (0, (s_q1t r1 false))) (f_q0a_run5 (a1, a2, 1, a0)))))) → (Option.bind (s_q0p a0) fun r1 => (cond (s_q1v a1 0 1000) (cond ((s_q1t r1 (s_q1v a2 0 20000)) != 0) (some [.v (.int .i64 0), .v (.int .i64 (s_q1t r1 (s_q1v a2 0 20000)))]) (f_q0a_L r 5 (f_q0a_s5 a1 a2 1 a0))) (cond ((s_q1t r1 false) != 0) (some [.v (.int .i64 0), .v (.int .i64 (s_q1t r1 false))]) (f_q0a_L r 5 (f_q0a_s5 a1 a2 1 a0))))) = some r := fun r h => (sem_bind h fun r1 h => (sem_cond h (fun h => (sem_cond h (fun h => sem_got h fun q => some_eq q) (fun h => f_q0a_go5 r _ h))) (fun h => (sem_cond h (fun h => sem_got h fun q => some_eq q) (fun h => f_q0a_go5 r _ h)))))
 exact go (l_q0a v) ⟨v, h, rfl⟩
noncomputable def c_q0a : List A → ACall
 | [.lst (.st [(.i .i8), (.i .u16)]) a0, .v (.int .i64 a1), .v (.int .i64 a2)] => ⟨(Int × Int), s_q0a a0 a1 a2, fun r => .tup [.v (.int .i64 r.1), .v (.int .i64 r.2)]⟩
 | _ => ACall.fail
theorem f_q0a_sound : Sound Try.prog 28 c_q0a := by
 refine sound_good f_q0a_ctx f_q0a_LV 3 Try.func28 (c := f_q0a_c) (by kernel_rfl) (rv := f_q0a_rv) (by kernel_rfl) (by kernel_rfl) (by kernel_rfl) (by kernel_rfl) fun rs => ?_
 unfold c_q0a
 split
 ·rename_i a0 a1 a2; intro v h; exact ⟨rfl, l_q0a v, rfl, (f_q0a_top a0 a1 a2 _).trans (s_q0a_ok a0 a1 a2 v h)⟩
 ·intro v h; cases h
end Go.RR
