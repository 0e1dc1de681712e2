/- Whether a field is bare. -/
import Derived.Test.YtkohnhkehedflaaVa
set_option linter.unusedVariables false
set_option linter.unusedSimpArgs false
set_option linter.unusedSectionVars false
set_option maxRecDepth 100000
namespace Go.RR
open Go Go.Proofs

/-! ### function 143: loop.example/g01322/impl.JobsFor$1 -/
noncomputable def f_iJobsFor_1_c : Code := match Try.f143.body with | some c => c | none => .skip
noncomputable def f_iJobsFor_1_X : Ctx := ⟨TT, phiOf [], noPsi, noXi⟩
def f_iJobsFor_1_LV : List (Nat × Keep) := []
def f_iJobsFor_1_rv : List ResultVar := [.tmp 3]
noncomputable def f_iJobsFor_1_L (r : List A) : Nat → AS → Option (List A) := L f_iJobsFor_1_X (cnOf f_iJobsFor_1_LV) f_iJobsFor_1_c (K0 TT f_iJobsFor_1_rv) r
theorem f_iJobsFor_1_ctx : CtxOK Try.prog f_iJobsFor_1_X := ctx_of tab mix trivial
noncomputable def s_iJobsFor_1 (a0 : (List Int)) (a1 : Int) (a2 : Int) (a3 : (Nat → Int)) : Option Bool := (cond (inB 0 (List.length a0)) (cond (inB (List.getD a0 0 0) 144) (some ((a3 (Int.toNat (List.getD a0 0 0))) == 0)) none) none)
theorem f_iJobsFor_1_top (a0 : (List Int)) (a1 : Int) (a2 : Int) (a3 : (Nat → Int)) (r : List A) : ev f_iJobsFor_1_X (lpc (cnOf f_iJobsFor_1_LV) (f_iJobsFor_1_L r)) f_iJobsFor_1_c (K0 TT f_iJobsFor_1_rv) (enter [.lst (.one (.i .i64)) a0, .ref (.rc [.v (.int .i8 a1), .v (.int .i8 a2), .fa 144 .u8 a3])]) = (cond (inB 0 (List.length a0)) (cond (inB (List.getD a0 0 0) 144) (some [.v (.bool ((a3 (Int.toNat (List.getD a0 0 0))) == 0))]) none) none) := by kernel_rfl
noncomputable def l_iJobsFor_1 (r : Bool) : List A := [.v (.bool r)]
theorem s_iJobsFor_1_ok (a0 : (List Int)) (a1 : Int) (a2 : Int) (a3 : (Nat → Int)) (v : Bool) (h : s_iJobsFor_1 a0 a1 a2 a3 = some v) : (cond (inB 0 (List.length a0)) (cond (inB (List.getD a0 0 0) 144) (some [.v (.bool ((a3 (Int.toNat (List.getD a0 0 0))) == 0))]) none) none) = some (l_iJobsFor_1 v) := by
  have e : (cond (inB 0 (List.length a0)) (cond (inB (List.getD a0 0 0) 144) (some [.v (.bool ((a3 (Int.toNat (List.getD a0 0 0))) == 0))]) none) none) = Option.map l_iJobsFor_1 (s_iJobsFor_1 a0 a1 a2 a3) := by
    unfold s_iJobsFor_1
    exact (cond_app (Option.map l_iJobsFor_1) (cond_app (Option.map l_iJobsFor_1) rfl rfl) rfl)
  rw [e, h]; rfl
noncomputable def c_iJobsFor_1 : List A → ACall
  | [.lst (.one (.i .i64)) a0, .ref (.rc [.v (.int .i8 a1), .v (.int .i8 a2), .fa 144 .u8 a3])] => ⟨Bool, s_iJobsFor_1 a0 a1 a2 a3, fun r => .one (.v (.bool r))⟩
  | _ => ACall.fail
theorem f_iJobsFor_1_sound : Sound Try.prog 143 c_iJobsFor_1 := by
  refine sound_good f_iJobsFor_1_ctx f_iJobsFor_1_LV 2 Try.func143 (c := f_iJobsFor_1_c) (by kernel_rfl) (rv := f_iJobsFor_1_rv) (by kernel_rfl) (by kernel_rfl) (by kernel_rfl) (by kernel_rfl) fun rs => ?_
  unfold c_iJobsFor_1
  split
  · rename_i a0 a1 a2 a3; intro v h; exact ⟨rfl, l_iJobsFor_1 v, rfl, (f_iJobsFor_1_top a0 a1 a2 a3 _).trans (s_iJobsFor_1_ok a0 a1 a2 a3 v h)⟩
  · intro v h; cases h

/-! ### function 187: slices.IndexFunc[[][]int64,[]int64] -/
noncomputable def f_gIndexFunc_int64S_a_c : Code := match Try.f187.body with | some c => c | none => .skip
noncomputable def f_gIndexFunc_int64S_a_X : Ctx := ⟨TT, phiOf [(143, c_iJobsFor_1)], noPsi, noXi⟩
def f_gIndexFunc_int64S_a_LV : List (Nat × Keep) := [(2, ([0, 1, 7, 8], [], []))]
def f_gIndexFunc_int64S_a_rv : List ResultVar := [.tmp 4]
noncomputable def f_gIndexFunc_int64S_a_L (r : List A) : Nat → AS → Option (List A) := L f_gIndexFunc_int64S_a_X (cnOf f_gIndexFunc_int64S_a_LV) f_gIndexFunc_int64S_a_c (K0 TT f_gIndexFunc_int64S_a_rv) r
theorem f_gIndexFunc_int64S_a_ctx : CtxOK Try.prog f_gIndexFunc_int64S_a_X := ctx_of tab mix ⟨⟨Try.call143, f_iJobsFor_1_sound⟩, trivial⟩
noncomputable def f_gIndexFunc_int64S_a_s2 (x0 : Int) (x1 : Int) (x2 : (List (List Int))) (x3 : Int) (x4 : Int) (x5 : (Nat → Int)) : AS := ⟨[(0, .a (.sl 0)), (1, .a (.clo 143 [.ptr 1 [] (0)])), (7, .a (.v (.int .i64 x0))), (8, .a (.v (.int .i64 x1)))], [(0, some ⟨false, .arr (.one (.ls .i64)) x2⟩), (1, some ⟨false, .box (.rc [.v (.int .i8 x3), .v (.int .i8 x4), .fa 144 .u8 x5])⟩)], 2⟩
noncomputable def l_gIndexFunc_int64S_a (r : Int) : List A := [.v (.int .i64 r)]
theorem f_gIndexFunc_int64S_a_step2 (x0 : Int) (x1 : Int) (x2 : (List (List Int))) (x3 : Int) (x4 : Int) (x5 : (Nat → Int)) (r : List A) (h : (cond (decide (x1 < x0)) (cond (inB x1 (List.length x2)) (Option.bind (s_iJobsFor_1 (List.getD x2 (Int.toNat x1) ([] : List Int)) x3 x4 x5) fun r1 => (cond r1 (some [.v (.int .i64 x1)]) (f_gIndexFunc_int64S_a_L r 2 (f_gIndexFunc_int64S_a_s2 x0 (IntKind.wrap .i64 (x1 + 1)) x2 x3 x4 x5)))) none) (some [.v (.int .i64 (-1))])) = some r) : f_gIndexFunc_int64S_a_L r 2 (f_gIndexFunc_int64S_a_s2 x0 x1 x2 x3 x4 x5) = some r :=
  step_of' h (by kernel_rfl)
noncomputable def f_gIndexFunc_int64S_a_n2 (x0 : Int) (x1 : Int) (x2 : (List (List Int))) (x3 : Int) (x4 : Int) (x5 : (Nat → Int)) : Option ((Int × Int × (List (List Int)) × Int × Int × (Nat → Int)) ⊕ Int) := (cond (decide (x1 < x0)) (cond (inB x1 (List.length x2)) (Option.bind (s_iJobsFor_1 (List.getD x2 (Int.toNat x1) ([] : List Int)) x3 x4 x5) fun r1 => (cond r1 (some (Sum.inr x1)) (some (Sum.inl (x0, (IntKind.wrap .i64 (x1 + 1)), x2, x3, x4, x5))))) none) (some (Sum.inr (-1))))
noncomputable def f_gIndexFunc_int64S_a_run2 (x : (Int × Int × (List (List Int)) × Int × Int × (Nat → Int))) : Option Int := iter (fun x => f_gIndexFunc_int64S_a_n2 x.1 x.2.1 x.2.2.1 x.2.2.2.1 x.2.2.2.2.1 x.2.2.2.2.2) FU x
noncomputable def f_gIndexFunc_int64S_a_G2 (r : List A) (x : (Int × Int × (List (List Int)) × Int × Int × (Nat → Int))) : Prop := f_gIndexFunc_int64S_a_L r 2 (f_gIndexFunc_int64S_a_s2 x.1 x.2.1 x.2.2.1 x.2.2.2.1 x.2.2.2.2.1 x.2.2.2.2.2) = some r
noncomputable def f_gIndexFunc_int64S_a_S2 (r : List A) : Int → Prop := fun v => r = l_gIndexFunc_int64S_a v
theorem f_gIndexFunc_int64S_a_go2 (r : List A) : ∀ x, sem (f_gIndexFunc_int64S_a_S2 r) (f_gIndexFunc_int64S_a_run2 x) → f_gIndexFunc_int64S_a_G2 r x :=
  fun x => iter_sound (step := fun x => f_gIndexFunc_int64S_a_n2 x.1 x.2.1 x.2.2.1 x.2.2.2.1 x.2.2.2.2.1 x.2.2.2.2.2) (fun x h => by
    unfold f_gIndexFunc_int64S_a_n2 at h
    exact f_gIndexFunc_int64S_a_step2 x.1 x.2.1 x.2.2.1 x.2.2.2.1 x.2.2.2.2.1 x.2.2.2.2.2 r ((sem_cond h (fun h => (sem_cond h (fun h => (sem_bind h fun r1 h => (sem_cond h (fun h => sem_got h fun q => some_eq q) (fun h => sem_got h fun q => q)))) (fun h => sem_none h))) (fun h => sem_got h fun q => some_eq q)))) FU x
noncomputable def s_gIndexFunc_int64S_a (a0 : (List (List Int))) (a1 : Int) (a2 : Int) (a3 : (Nat → Int)) : Option Int := (f_gIndexFunc_int64S_a_run2 (((List.length a0 : Nat) : Int), 0, a0, a1, a2, a3))
theorem f_gIndexFunc_int64S_a_top (a0 : (List (List Int))) (a1 : Int) (a2 : Int) (a3 : (Nat → Int)) (r : List A) : ev f_gIndexFunc_int64S_a_X (lpc (cnOf f_gIndexFunc_int64S_a_LV) (f_gIndexFunc_int64S_a_L r)) f_gIndexFunc_int64S_a_c (K0 TT f_gIndexFunc_int64S_a_rv) (enter [.lst (.one (.ls .i64)) a0, .clo 143 [.ref (.rc [.v (.int .i8 a1), .v (.int .i8 a2), .fa 144 .u8 a3])]]) = (f_gIndexFunc_int64S_a_L r 2 (f_gIndexFunc_int64S_a_s2 ((List.length a0 : Nat) : Int) 0 a0 a1 a2 a3)) := by kernel_rfl
theorem s_gIndexFunc_int64S_a_ok (a0 : (List (List Int))) (a1 : Int) (a2 : Int) (a3 : (Nat → Int)) (v : Int) (h : s_gIndexFunc_int64S_a a0 a1 a2 a3 = some v) : (f_gIndexFunc_int64S_a_L (l_gIndexFunc_int64S_a v) 2 (f_gIndexFunc_int64S_a_s2 ((List.length a0 : Nat) : Int) 0 a0 a1 a2 a3)) = some (l_gIndexFunc_int64S_a v) := by
  unfold s_gIndexFunc_int64S_a at h
  have go : ∀ r, sem (fun v => r = l_gIndexFunc_int64S_a v) ((f_gIndexFunc_int64S_a_run2 (((List.length a0 : Nat) : Int), 0, a0, a1, a2, a3))) → (f_gIndexFunc_int64S_a_L r 2 (f_gIndexFunc_int64S_a_s2 ((List.length a0 : Nat) : Int) 0 a0 a1 a2 a3)) = some r := fun r h => f_gIndexFunc_int64S_a_go2 r _ h
  exact go (l_gIndexFunc_int64S_a v) ⟨v, h, rfl⟩
noncomputable def c_gIndexFunc_int64S_a : List A → ACall
  | [.lst (.one (.ls .i64)) a0, .clo 143 [.ref (.rc [.v (.int .i8 a1), .v (.int .i8 a2), .fa 144 .u8 a3])]] => ⟨Int, s_gIndexFunc_int64S_a a0 a1 a2 a3, fun r => .one (.v (.int .i64 r))⟩
  | _ => ACall.fail
theorem f_gIndexFunc_int64S_a_sound : Sound Try.prog 187 c_gIndexFunc_int64S_a := by
  refine sound_good f_gIndexFunc_int64S_a_ctx f_gIndexFunc_int64S_a_LV 2 Try.func187 (c := f_gIndexFunc_int64S_a_c) (by kernel_rfl) (rv := f_gIndexFunc_int64S_a_rv) (by kernel_rfl) (by kernel_rfl) (by kernel_rfl) (by kernel_rfl) fun rs => ?_
  unfold c_gIndexFunc_int64S_a
  split
  · rename_i a0 a1 a2 a3; intro v h; exact ⟨rfl, l_gIndexFunc_int64S_a v, rfl, (f_gIndexFunc_int64S_a_top a0 a1 a2 a3 _).trans (s_gIndexFunc_int64S_a_ok a0 a1 a2 a3 v h)⟩
  · intro v h; cases h
def m_gIndexFunc_int64S_a : List A → Bool
  | [_, .clo 143 _] => true
  | _ => false
end Go.RR
