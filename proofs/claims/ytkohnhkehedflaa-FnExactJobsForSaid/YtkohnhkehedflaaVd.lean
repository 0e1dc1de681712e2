/- Jobs for fields, as the program makes them. -/
import Derived.Test.YtkohnhkehedflaaVc
set_option linter.unusedVariables false
set_option linter.unusedSimpArgs false
set_option linter.unusedSectionVars false
set_option maxRecDepth 100000
namespace Go.RR
open Go Go.Proofs

/-! ### function 191: loop.example/g01322/impl.areNeighbours$1$1 -/
noncomputable def f_iareNeighbours_1_1_c : Code := match Try.f191.body with | some c => c | none => .skip
noncomputable def f_iareNeighbours_1_1_X : Ctx := ⟨TT, phiOf [(192, c_gContains_int64)], noPsi, noXi⟩
def f_iareNeighbours_1_1_LV : List (Nat × Keep) := []
def f_iareNeighbours_1_1_rv : List ResultVar := [.tmp 3]
noncomputable def f_iareNeighbours_1_1_L (r : List A) : Nat → AS → Option (List A) := L f_iareNeighbours_1_1_X (cnOf f_iareNeighbours_1_1_LV) f_iareNeighbours_1_1_c (K0 TT f_iareNeighbours_1_1_rv) r
theorem f_iareNeighbours_1_1_ctx : CtxOK Try.prog f_iareNeighbours_1_1_X := ctx_of tab mix ⟨⟨Try.call192, f_gContains_int64_sound⟩, trivial⟩
noncomputable def s_iareNeighbours_1_1 (a0 : Int) (a1 : (List Int)) : Option Bool := (Option.bind (s_gContains_int64 a1 a0) fun r1 => (some r1))
theorem f_iareNeighbours_1_1_top (a0 : Int) (a1 : (List Int)) (r : List A) : ev f_iareNeighbours_1_1_X (lpc (cnOf f_iareNeighbours_1_1_LV) (f_iareNeighbours_1_1_L r)) f_iareNeighbours_1_1_c (K0 TT f_iareNeighbours_1_1_rv) (enter [.v (.int .i64 a0), .ref (.lst (.one (.i .i64)) a1)]) = (Option.bind (s_gContains_int64 a1 a0) fun r1 => (some [.v (.bool r1)])) := by kernel_rfl
noncomputable def l_iareNeighbours_1_1 (r : Bool) : List A := [.v (.bool r)]
theorem s_iareNeighbours_1_1_ok (a0 : Int) (a1 : (List Int)) (v : Bool) (h : s_iareNeighbours_1_1 a0 a1 = some v) : (Option.bind (s_gContains_int64 a1 a0) fun r1 => (some [.v (.bool r1)])) = some (l_iareNeighbours_1_1 v) := by
  have e : (Option.bind (s_gContains_int64 a1 a0) fun r1 => (some [.v (.bool r1)])) = Option.map l_iareNeighbours_1_1 (s_iareNeighbours_1_1 a0 a1) := by
    unfold s_iareNeighbours_1_1
    exact (bind_app fun _ => rfl)
  rw [e, h]; rfl
noncomputable def c_iareNeighbours_1_1 : List A → ACall
  | [.v (.int .i64 a0), .ref (.lst (.one (.i .i64)) a1)] => ⟨Bool, s_iareNeighbours_1_1 a0 a1, fun r => .one (.v (.bool r))⟩
  | _ => ACall.fail
theorem f_iareNeighbours_1_1_sound : Sound Try.prog 191 c_iareNeighbours_1_1 := by
  refine sound_good f_iareNeighbours_1_1_ctx f_iareNeighbours_1_1_LV 2 Try.func191 (c := f_iareNeighbours_1_1_c) (by kernel_rfl) (rv := f_iareNeighbours_1_1_rv) (by kernel_rfl) (by kernel_rfl) (by kernel_rfl) (by kernel_rfl) fun rs => ?_
  unfold c_iareNeighbours_1_1
  split
  · rename_i a0 a1; intro v h; exact ⟨rfl, l_iareNeighbours_1_1 v, rfl, (f_iareNeighbours_1_1_top a0 a1 _).trans (s_iareNeighbours_1_1_ok a0 a1 v h)⟩
  · intro v h; cases h

/-! ### function 181: slices.IndexFunc[[]int64,int64] -/
noncomputable def f_gIndexFunc_int64_b_c : Code := match Try.f181.body with | some c => c | none => .skip
noncomputable def f_gIndexFunc_int64_b_X : Ctx := ⟨TT, phiOf [(191, c_iareNeighbours_1_1)], noPsi, noXi⟩
def f_gIndexFunc_int64_b_LV : List (Nat × Keep) := [(2, ([0, 1, 7, 8], [], []))]
def f_gIndexFunc_int64_b_rv : List ResultVar := [.tmp 4]
noncomputable def f_gIndexFunc_int64_b_L (r : List A) : Nat → AS → Option (List A) := L f_gIndexFunc_int64_b_X (cnOf f_gIndexFunc_int64_b_LV) f_gIndexFunc_int64_b_c (K0 TT f_gIndexFunc_int64_b_rv) r
theorem f_gIndexFunc_int64_b_ctx : CtxOK Try.prog f_gIndexFunc_int64_b_X := ctx_of tab mix ⟨⟨Try.call191, f_iareNeighbours_1_1_sound⟩, trivial⟩
noncomputable def f_gIndexFunc_int64_b_s2 (x0 : Int) (x1 : Int) (x2 : (List Int)) (x3 : (List Int)) : AS := ⟨[(0, .a (.sl 0)), (1, .a (.clo 191 [.ptr 1 [] (0)])), (7, .a (.v (.int .i64 x0))), (8, .a (.v (.int .i64 x1)))], [(0, some ⟨false, .arr (.one (.i .i64)) x2⟩), (1, some ⟨false, .box (.sl 2)⟩), (2, some ⟨false, .arr (.one (.i .i64)) x3⟩)], 3⟩
noncomputable def l_gIndexFunc_int64_b (r : Int) : List A := [.v (.int .i64 r)]
theorem f_gIndexFunc_int64_b_step2 (x0 : Int) (x1 : Int) (x2 : (List Int)) (x3 : (List Int)) (r : List A) (h : (cond (decide (x1 < x0)) (cond (inB x1 (List.length x2)) (Option.bind (s_iareNeighbours_1_1 (List.getD x2 (Int.toNat x1) 0) x3) fun r1 => (cond r1 (some [.v (.int .i64 x1)]) (f_gIndexFunc_int64_b_L r 2 (f_gIndexFunc_int64_b_s2 x0 (IntKind.wrap .i64 (x1 + 1)) x2 x3)))) none) (some [.v (.int .i64 (-1))])) = some r) : f_gIndexFunc_int64_b_L r 2 (f_gIndexFunc_int64_b_s2 x0 x1 x2 x3) = some r :=
  step_of' h (by kernel_rfl)
noncomputable def f_gIndexFunc_int64_b_n2 (x0 : Int) (x1 : Int) (x2 : (List Int)) (x3 : (List Int)) : Option ((Int × Int × (List Int) × (List Int)) ⊕ Int) := (cond (decide (x1 < x0)) (cond (inB x1 (List.length x2)) (Option.bind (s_iareNeighbours_1_1 (List.getD x2 (Int.toNat x1) 0) x3) fun r1 => (cond r1 (some (Sum.inr x1)) (some (Sum.inl (x0, (IntKind.wrap .i64 (x1 + 1)), x2, x3))))) none) (some (Sum.inr (-1))))
noncomputable def f_gIndexFunc_int64_b_run2 (x : (Int × Int × (List Int) × (List Int))) : Option Int := iter (fun x => f_gIndexFunc_int64_b_n2 x.1 x.2.1 x.2.2.1 x.2.2.2) FU x
noncomputable def f_gIndexFunc_int64_b_G2 (r : List A) (x : (Int × Int × (List Int) × (List Int))) : Prop := f_gIndexFunc_int64_b_L r 2 (f_gIndexFunc_int64_b_s2 x.1 x.2.1 x.2.2.1 x.2.2.2) = some r
noncomputable def f_gIndexFunc_int64_b_S2 (r : List A) : Int → Prop := fun v => r = l_gIndexFunc_int64_b v
theorem f_gIndexFunc_int64_b_go2 (r : List A) : ∀ x, sem (f_gIndexFunc_int64_b_S2 r) (f_gIndexFunc_int64_b_run2 x) → f_gIndexFunc_int64_b_G2 r x :=
  fun x => iter_sound (step := fun x => f_gIndexFunc_int64_b_n2 x.1 x.2.1 x.2.2.1 x.2.2.2) (fun x h => by
    unfold f_gIndexFunc_int64_b_n2 at h
    exact f_gIndexFunc_int64_b_step2 x.1 x.2.1 x.2.2.1 x.2.2.2 r ((sem_cond h (fun h => (sem_cond h (fun h => (sem_bind h fun r1 h => (sem_cond h (fun h => sem_got h fun q => some_eq q) (fun h => sem_got h fun q => q)))) (fun h => sem_none h))) (fun h => sem_got h fun q => some_eq q)))) FU x
noncomputable def s_gIndexFunc_int64_b (a0 : (List Int)) (a1 : (List Int)) : Option Int := (f_gIndexFunc_int64_b_run2 (((List.length a0 : Nat) : Int), 0, a0, a1))
theorem f_gIndexFunc_int64_b_top (a0 : (List Int)) (a1 : (List Int)) (r : List A) : ev f_gIndexFunc_int64_b_X (lpc (cnOf f_gIndexFunc_int64_b_LV) (f_gIndexFunc_int64_b_L r)) f_gIndexFunc_int64_b_c (K0 TT f_gIndexFunc_int64_b_rv) (enter [.lst (.one (.i .i64)) a0, .clo 191 [.ref (.lst (.one (.i .i64)) a1)]]) = (f_gIndexFunc_int64_b_L r 2 (f_gIndexFunc_int64_b_s2 ((List.length a0 : Nat) : Int) 0 a0 a1)) := by kernel_rfl
theorem s_gIndexFunc_int64_b_ok (a0 : (List Int)) (a1 : (List Int)) (v : Int) (h : s_gIndexFunc_int64_b a0 a1 = some v) : (f_gIndexFunc_int64_b_L (l_gIndexFunc_int64_b v) 2 (f_gIndexFunc_int64_b_s2 ((List.length a0 : Nat) : Int) 0 a0 a1)) = some (l_gIndexFunc_int64_b v) := by
  unfold s_gIndexFunc_int64_b at h
  have go : ∀ r, sem (fun v => r = l_gIndexFunc_int64_b v) ((f_gIndexFunc_int64_b_run2 (((List.length a0 : Nat) : Int), 0, a0, a1))) → (f_gIndexFunc_int64_b_L r 2 (f_gIndexFunc_int64_b_s2 ((List.length a0 : Nat) : Int) 0 a0 a1)) = some r := fun r h => f_gIndexFunc_int64_b_go2 r _ h
  exact go (l_gIndexFunc_int64_b v) ⟨v, h, rfl⟩
noncomputable def c_gIndexFunc_int64_b : List A → ACall
  | [.lst (.one (.i .i64)) a0, .clo 191 [.ref (.lst (.one (.i .i64)) a1)]] => ⟨Int, s_gIndexFunc_int64_b a0 a1, fun r => .one (.v (.int .i64 r))⟩
  | _ => ACall.fail
theorem f_gIndexFunc_int64_b_sound : Sound Try.prog 181 c_gIndexFunc_int64_b := by
  refine sound_good f_gIndexFunc_int64_b_ctx f_gIndexFunc_int64_b_LV 2 Try.func181 (c := f_gIndexFunc_int64_b_c) (by kernel_rfl) (rv := f_gIndexFunc_int64_b_rv) (by kernel_rfl) (by kernel_rfl) (by kernel_rfl) (by kernel_rfl) fun rs => ?_
  unfold c_gIndexFunc_int64_b
  split
  · rename_i a0 a1; intro v h; exact ⟨rfl, l_gIndexFunc_int64_b v, rfl, (f_gIndexFunc_int64_b_top a0 a1 _).trans (s_gIndexFunc_int64_b_ok a0 a1 v h)⟩
  · intro v h; cases h
def m_gIndexFunc_int64_b : List A → Bool
  | [_, .clo 191 _] => true
  | _ => false

/-! ### function 125: slices.ContainsFunc[[]int64,int64] -/
noncomputable def f_gContainsFunc_int64_b_c : Code := match Try.f125.body with | some c => c | none => .skip
noncomputable def f_gContainsFunc_int64_b_X : Ctx := ⟨TT, phiOf [(181, c_gIndexFunc_int64_b)], noPsi, noXi⟩
def f_gContainsFunc_int64_b_LV : List (Nat × Keep) := []
def f_gContainsFunc_int64_b_rv : List ResultVar := [.tmp 4]
noncomputable def f_gContainsFunc_int64_b_L (r : List A) : Nat → AS → Option (List A) := L f_gContainsFunc_int64_b_X (cnOf f_gContainsFunc_int64_b_LV) f_gContainsFunc_int64_b_c (K0 TT f_gContainsFunc_int64_b_rv) r
theorem f_gContainsFunc_int64_b_ctx : CtxOK Try.prog f_gContainsFunc_int64_b_X := ctx_of tab mix ⟨⟨Try.call181, f_gIndexFunc_int64_b_sound⟩, trivial⟩
noncomputable def s_gContainsFunc_int64_b (a0 : (List Int)) (a1 : (List Int)) : Option Bool := (Option.bind (s_gIndexFunc_int64_b a0 a1) fun r1 => (some (decide (r1 ≥ 0))))
theorem f_gContainsFunc_int64_b_top (a0 : (List Int)) (a1 : (List Int)) (r : List A) : ev f_gContainsFunc_int64_b_X (lpc (cnOf f_gContainsFunc_int64_b_LV) (f_gContainsFunc_int64_b_L r)) f_gContainsFunc_int64_b_c (K0 TT f_gContainsFunc_int64_b_rv) (enter [.lst (.one (.i .i64)) a0, .clo 191 [.ref (.lst (.one (.i .i64)) a1)]]) = (Option.bind (s_gIndexFunc_int64_b a0 a1) fun r1 => (some [.v (.bool (decide (r1 ≥ 0)))])) := by kernel_rfl
noncomputable def l_gContainsFunc_int64_b (r : Bool) : List A := [.v (.bool r)]
theorem s_gContainsFunc_int64_b_ok (a0 : (List Int)) (a1 : (List Int)) (v : Bool) (h : s_gContainsFunc_int64_b a0 a1 = some v) : (Option.bind (s_gIndexFunc_int64_b a0 a1) fun r1 => (some [.v (.bool (decide (r1 ≥ 0)))])) = some (l_gContainsFunc_int64_b v) := by
  have e : (Option.bind (s_gIndexFunc_int64_b a0 a1) fun r1 => (some [.v (.bool (decide (r1 ≥ 0)))])) = Option.map l_gContainsFunc_int64_b (s_gContainsFunc_int64_b a0 a1) := by
    unfold s_gContainsFunc_int64_b
    exact (bind_app fun _ => rfl)
  rw [e, h]; rfl
noncomputable def c_gContainsFunc_int64_b : List A → ACall
  | [.lst (.one (.i .i64)) a0, .clo 191 [.ref (.lst (.one (.i .i64)) a1)]] => ⟨Bool, s_gContainsFunc_int64_b a0 a1, fun r => .one (.v (.bool r))⟩
  | _ => ACall.fail
theorem f_gContainsFunc_int64_b_sound : Sound Try.prog 125 c_gContainsFunc_int64_b := by
  refine sound_good f_gContainsFunc_int64_b_ctx f_gContainsFunc_int64_b_LV 2 Try.func125 (c := f_gContainsFunc_int64_b_c) (by kernel_rfl) (rv := f_gContainsFunc_int64_b_rv) (by kernel_rfl) (by kernel_rfl) (by kernel_rfl) (by kernel_rfl) fun rs => ?_
  unfold c_gContainsFunc_int64_b
  split
  · rename_i a0 a1; intro v h; exact ⟨rfl, l_gContainsFunc_int64_b v, rfl, (f_gContainsFunc_int64_b_top a0 a1 _).trans (s_gContainsFunc_int64_b_ok a0 a1 v h)⟩
  · intro v h; cases h
def m_gContainsFunc_int64_b : List A → Bool
  | [_, .clo 191 _] => true
  | _ => false

/-! ### function 189: loop.example/g01322/impl.areNeighbours$1 -/
noncomputable def f_iareNeighbours_1_c : Code := match Try.f189.body with | some c => c | none => .skip
noncomputable def f_iareNeighbours_1_X : Ctx := ⟨TT, phiOf [(125, c_gContainsFunc_int64_b), (190, c_ibeside)], noPsi, noXi⟩
def f_iareNeighbours_1_LV : List (Nat × Keep) := []
def f_iareNeighbours_1_rv : List ResultVar := [.tmp 4]
noncomputable def f_iareNeighbours_1_L (r : List A) : Nat → AS → Option (List A) := L f_iareNeighbours_1_X (cnOf f_iareNeighbours_1_LV) f_iareNeighbours_1_c (K0 TT f_iareNeighbours_1_rv) r
theorem f_iareNeighbours_1_ctx : CtxOK Try.prog f_iareNeighbours_1_X := ctx_of tab mix ⟨⟨Try.call125, f_gContainsFunc_int64_b_sound⟩, ⟨Try.call190, f_ibeside_sound⟩, trivial⟩
noncomputable def s_iareNeighbours_1 (a0 : Int) (a1 : Int) (a2 : Int) (a3 : (Nat → Int)) (a4 : (List Int)) : Option Bool := (Option.bind (s_ibeside a0 a1 a2) fun r1 => (Option.bind (s_gContainsFunc_int64_b r1 a4) fun r2 => (some r2)))
theorem f_iareNeighbours_1_top (a0 : Int) (a1 : Int) (a2 : Int) (a3 : (Nat → Int)) (a4 : (List Int)) (r : List A) : ev f_iareNeighbours_1_X (lpc (cnOf f_iareNeighbours_1_LV) (f_iareNeighbours_1_L r)) f_iareNeighbours_1_c (K0 TT f_iareNeighbours_1_rv) (enter [.v (.int .i64 a0), .ref (.rc [.v (.int .i8 a1), .v (.int .i8 a2), .fa 144 .u8 a3]), .ref (.lst (.one (.i .i64)) a4)]) = (Option.bind (s_ibeside a0 a1 a2) fun r1 => (Option.bind (s_gContainsFunc_int64_b r1 a4) fun r2 => (some [.v (.bool r2)]))) := by kernel_rfl
noncomputable def l_iareNeighbours_1 (r : Bool) : List A := [.v (.bool r)]
theorem s_iareNeighbours_1_ok (a0 : Int) (a1 : Int) (a2 : Int) (a3 : (Nat → Int)) (a4 : (List Int)) (v : Bool) (h : s_iareNeighbours_1 a0 a1 a2 a3 a4 = some v) : (Option.bind (s_ibeside a0 a1 a2) fun r1 => (Option.bind (s_gContainsFunc_int64_b r1 a4) fun r2 => (some [.v (.bool r2)]))) = some (l_iareNeighbours_1 v) := by
  have e : (Option.bind (s_ibeside a0 a1 a2) fun r1 => (Option.bind (s_gContainsFunc_int64_b r1 a4) fun r2 => (some [.v (.bool r2)]))) = Option.map l_iareNeighbours_1 (s_iareNeighbours_1 a0 a1 a2 a3 a4) := by
    unfold s_iareNeighbours_1
    exact (bind_app fun _ => (bind_app fun _ => rfl))
  rw [e, h]; rfl
noncomputable def c_iareNeighbours_1 : List A → ACall
  | [.v (.int .i64 a0), .ref (.rc [.v (.int .i8 a1), .v (.int .i8 a2), .fa 144 .u8 a3]), .ref (.lst (.one (.i .i64)) a4)] => ⟨Bool, s_iareNeighbours_1 a0 a1 a2 a3 a4, fun r => .one (.v (.bool r))⟩
  | _ => ACall.fail
theorem f_iareNeighbours_1_sound : Sound Try.prog 189 c_iareNeighbours_1 := by
  refine sound_good f_iareNeighbours_1_ctx f_iareNeighbours_1_LV 3 Try.func189 (c := f_iareNeighbours_1_c) (by kernel_rfl) (rv := f_iareNeighbours_1_rv) (by kernel_rfl) (by kernel_rfl) (by kernel_rfl) (by kernel_rfl) fun rs => ?_
  unfold c_iareNeighbours_1
  split
  · rename_i a0 a1 a2 a3 a4; intro v h; exact ⟨rfl, l_iareNeighbours_1 v, rfl, (f_iareNeighbours_1_top a0 a1 a2 a3 a4 _).trans (s_iareNeighbours_1_ok a0 a1 a2 a3 a4 v h)⟩
  · intro v h; cases h

/-! ### function 181: slices.IndexFunc[[]int64,int64] -/
noncomputable def f_gIndexFunc_int64_a_c : Code := match Try.f181.body with | some c => c | none => .skip
noncomputable def f_gIndexFunc_int64_a_X : Ctx := ⟨TT, phiOf [(189, c_iareNeighbours_1)], noPsi, noXi⟩
def f_gIndexFunc_int64_a_LV : List (Nat × Keep) := [(2, ([0, 1, 7, 8], [], []))]
def f_gIndexFunc_int64_a_rv : List ResultVar := [.tmp 4]
noncomputable def f_gIndexFunc_int64_a_L (r : List A) : Nat → AS → Option (List A) := L f_gIndexFunc_int64_a_X (cnOf f_gIndexFunc_int64_a_LV) f_gIndexFunc_int64_a_c (K0 TT f_gIndexFunc_int64_a_rv) r
theorem f_gIndexFunc_int64_a_ctx : CtxOK Try.prog f_gIndexFunc_int64_a_X := ctx_of tab mix ⟨⟨Try.call189, f_iareNeighbours_1_sound⟩, trivial⟩
noncomputable def f_gIndexFunc_int64_a_s2 (x0 : Int) (x1 : Int) (x2 : (List Int)) (x3 : Int) (x4 : Int) (x5 : (Nat → Int)) (x6 : (List Int)) : AS := ⟨[(0, .a (.sl 0)), (1, .a (.clo 189 [.ptr 1 [] (0), .ptr 2 [] (0)])), (7, .a (.v (.int .i64 x0))), (8, .a (.v (.int .i64 x1)))], [(0, some ⟨false, .arr (.one (.i .i64)) x2⟩), (1, some ⟨false, .box (.rc [.v (.int .i8 x3), .v (.int .i8 x4), .fa 144 .u8 x5])⟩), (2, some ⟨false, .box (.sl 3)⟩), (3, some ⟨false, .arr (.one (.i .i64)) x6⟩)], 4⟩
noncomputable def l_gIndexFunc_int64_a (r : Int) : List A := [.v (.int .i64 r)]
theorem f_gIndexFunc_int64_a_step2 (x0 : Int) (x1 : Int) (x2 : (List Int)) (x3 : Int) (x4 : Int) (x5 : (Nat → Int)) (x6 : (List Int)) (r : List A) (h : (cond (decide (x1 < x0)) (cond (inB x1 (List.length x2)) (Option.bind (s_iareNeighbours_1 (List.getD x2 (Int.toNat x1) 0) x3 x4 x5 x6) fun r1 => (cond r1 (some [.v (.int .i64 x1)]) (f_gIndexFunc_int64_a_L r 2 (f_gIndexFunc_int64_a_s2 x0 (IntKind.wrap .i64 (x1 + 1)) x2 x3 x4 x5 x6)))) none) (some [.v (.int .i64 (-1))])) = some r) : f_gIndexFunc_int64_a_L r 2 (f_gIndexFunc_int64_a_s2 x0 x1 x2 x3 x4 x5 x6) = some r :=
  step_of' h (by kernel_rfl)
noncomputable def f_gIndexFunc_int64_a_n2 (x0 : Int) (x1 : Int) (x2 : (List Int)) (x3 : Int) (x4 : Int) (x5 : (Nat → Int)) (x6 : (List Int)) : Option ((Int × Int × (List Int) × Int × Int × (Nat → Int) × (List Int)) ⊕ Int) := (cond (decide (x1 < x0)) (cond (inB x1 (List.length x2)) (Option.bind (s_iareNeighbours_1 (List.getD x2 (Int.toNat x1) 0) x3 x4 x5 x6) fun r1 => (cond r1 (some (Sum.inr x1)) (some (Sum.inl (x0, (IntKind.wrap .i64 (x1 + 1)), x2, x3, x4, x5, x6))))) none) (some (Sum.inr (-1))))
noncomputable def f_gIndexFunc_int64_a_run2 (x : (Int × Int × (List Int) × Int × Int × (Nat → Int) × (List Int))) : Option Int := iter (fun x => f_gIndexFunc_int64_a_n2 x.1 x.2.1 x.2.2.1 x.2.2.2.1 x.2.2.2.2.1 x.2.2.2.2.2.1 x.2.2.2.2.2.2) FU x
noncomputable def f_gIndexFunc_int64_a_G2 (r : List A) (x : (Int × Int × (List Int) × Int × Int × (Nat → Int) × (List Int))) : Prop := f_gIndexFunc_int64_a_L r 2 (f_gIndexFunc_int64_a_s2 x.1 x.2.1 x.2.2.1 x.2.2.2.1 x.2.2.2.2.1 x.2.2.2.2.2.1 x.2.2.2.2.2.2) = some r
noncomputable def f_gIndexFunc_int64_a_S2 (r : List A) : Int → Prop := fun v => r = l_gIndexFunc_int64_a v
theorem f_gIndexFunc_int64_a_go2 (r : List A) : ∀ x, sem (f_gIndexFunc_int64_a_S2 r) (f_gIndexFunc_int64_a_run2 x) → f_gIndexFunc_int64_a_G2 r x :=
  fun x => iter_sound (step := fun x => f_gIndexFunc_int64_a_n2 x.1 x.2.1 x.2.2.1 x.2.2.2.1 x.2.2.2.2.1 x.2.2.2.2.2.1 x.2.2.2.2.2.2) (fun x h => by
    unfold f_gIndexFunc_int64_a_n2 at h
    exact f_gIndexFunc_int64_a_step2 x.1 x.2.1 x.2.2.1 x.2.2.2.1 x.2.2.2.2.1 x.2.2.2.2.2.1 x.2.2.2.2.2.2 r ((sem_cond h (fun h => (sem_cond h (fun h => (sem_bind h fun r1 h => (sem_cond h (fun h => sem_got h fun q => some_eq q) (fun h => sem_got h fun q => q)))) (fun h => sem_none h))) (fun h => sem_got h fun q => some_eq q)))) FU x
noncomputable def s_gIndexFunc_int64_a (a0 : (List Int)) (a1 : Int) (a2 : Int) (a3 : (Nat → Int)) (a4 : (List Int)) : Option Int := (f_gIndexFunc_int64_a_run2 (((List.length a0 : Nat) : Int), 0, a0, a1, a2, a3, a4))
theorem f_gIndexFunc_int64_a_top (a0 : (List Int)) (a1 : Int) (a2 : Int) (a3 : (Nat → Int)) (a4 : (List Int)) (r : List A) : ev f_gIndexFunc_int64_a_X (lpc (cnOf f_gIndexFunc_int64_a_LV) (f_gIndexFunc_int64_a_L r)) f_gIndexFunc_int64_a_c (K0 TT f_gIndexFunc_int64_a_rv) (enter [.lst (.one (.i .i64)) a0, .clo 189 [.ref (.rc [.v (.int .i8 a1), .v (.int .i8 a2), .fa 144 .u8 a3]), .ref (.lst (.one (.i .i64)) a4)]]) = (f_gIndexFunc_int64_a_L r 2 (f_gIndexFunc_int64_a_s2 ((List.length a0 : Nat) : Int) 0 a0 a1 a2 a3 a4)) := by kernel_rfl
theorem s_gIndexFunc_int64_a_ok (a0 : (List Int)) (a1 : Int) (a2 : Int) (a3 : (Nat → Int)) (a4 : (List Int)) (v : Int) (h : s_gIndexFunc_int64_a a0 a1 a2 a3 a4 = some v) : (f_gIndexFunc_int64_a_L (l_gIndexFunc_int64_a v) 2 (f_gIndexFunc_int64_a_s2 ((List.length a0 : Nat) : Int) 0 a0 a1 a2 a3 a4)) = some (l_gIndexFunc_int64_a v) := by
  unfold s_gIndexFunc_int64_a at h
  have go : ∀ r, sem (fun v => r = l_gIndexFunc_int64_a v) ((f_gIndexFunc_int64_a_run2 (((List.length a0 : Nat) : Int), 0, a0, a1, a2, a3, a4))) → (f_gIndexFunc_int64_a_L r 2 (f_gIndexFunc_int64_a_s2 ((List.length a0 : Nat) : Int) 0 a0 a1 a2 a3 a4)) = some r := fun r h => f_gIndexFunc_int64_a_go2 r _ h
  exact go (l_gIndexFunc_int64_a v) ⟨v, h, rfl⟩
noncomputable def c_gIndexFunc_int64_a : List A → ACall
  | [.lst (.one (.i .i64)) a0, .clo 189 [.ref (.rc [.v (.int .i8 a1), .v (.int .i8 a2), .fa 144 .u8 a3]), .ref (.lst (.one (.i .i64)) a4)]] => ⟨Int, s_gIndexFunc_int64_a a0 a1 a2 a3 a4, fun r => .one (.v (.int .i64 r))⟩
  | _ => ACall.fail
theorem f_gIndexFunc_int64_a_sound : Sound Try.prog 181 c_gIndexFunc_int64_a := by
  refine sound_good f_gIndexFunc_int64_a_ctx f_gIndexFunc_int64_a_LV 2 Try.func181 (c := f_gIndexFunc_int64_a_c) (by kernel_rfl) (rv := f_gIndexFunc_int64_a_rv) (by kernel_rfl) (by kernel_rfl) (by kernel_rfl) (by kernel_rfl) fun rs => ?_
  unfold c_gIndexFunc_int64_a
  split
  · rename_i a0 a1 a2 a3 a4; intro v h; exact ⟨rfl, l_gIndexFunc_int64_a v, rfl, (f_gIndexFunc_int64_a_top a0 a1 a2 a3 a4 _).trans (s_gIndexFunc_int64_a_ok a0 a1 a2 a3 a4 v h)⟩
  · intro v h; cases h
def m_gIndexFunc_int64_a : List A → Bool
  | [_, .clo 189 _] => true
  | _ => false

/-! ### function 125: slices.ContainsFunc[[]int64,int64] -/
noncomputable def f_gContainsFunc_int64_a_c : Code := match Try.f125.body with | some c => c | none => .skip
noncomputable def f_gContainsFunc_int64_a_X : Ctx := ⟨TT, phiOf [(181, c_gIndexFunc_int64_a)], noPsi, noXi⟩
def f_gContainsFunc_int64_a_LV : List (Nat × Keep) := []
def f_gContainsFunc_int64_a_rv : List ResultVar := [.tmp 4]
noncomputable def f_gContainsFunc_int64_a_L (r : List A) : Nat → AS → Option (List A) := L f_gContainsFunc_int64_a_X (cnOf f_gContainsFunc_int64_a_LV) f_gContainsFunc_int64_a_c (K0 TT f_gContainsFunc_int64_a_rv) r
theorem f_gContainsFunc_int64_a_ctx : CtxOK Try.prog f_gContainsFunc_int64_a_X := ctx_of tab mix ⟨⟨Try.call181, f_gIndexFunc_int64_a_sound⟩, trivial⟩
noncomputable def s_gContainsFunc_int64_a (a0 : (List Int)) (a1 : Int) (a2 : Int) (a3 : (Nat → Int)) (a4 : (List Int)) : Option Bool := (Option.bind (s_gIndexFunc_int64_a a0 a1 a2 a3 a4) fun r1 => (some (decide (r1 ≥ 0))))
theorem f_gContainsFunc_int64_a_top (a0 : (List Int)) (a1 : Int) (a2 : Int) (a3 : (Nat → Int)) (a4 : (List Int)) (r : List A) : ev f_gContainsFunc_int64_a_X (lpc (cnOf f_gContainsFunc_int64_a_LV) (f_gContainsFunc_int64_a_L r)) f_gContainsFunc_int64_a_c (K0 TT f_gContainsFunc_int64_a_rv) (enter [.lst (.one (.i .i64)) a0, .clo 189 [.ref (.rc [.v (.int .i8 a1), .v (.int .i8 a2), .fa 144 .u8 a3]), .ref (.lst (.one (.i .i64)) a4)]]) = (Option.bind (s_gIndexFunc_int64_a a0 a1 a2 a3 a4) fun r1 => (some [.v (.bool (decide (r1 ≥ 0)))])) := by kernel_rfl
noncomputable def l_gContainsFunc_int64_a (r : Bool) : List A := [.v (.bool r)]
theorem s_gContainsFunc_int64_a_ok (a0 : (List Int)) (a1 : Int) (a2 : Int) (a3 : (Nat → Int)) (a4 : (List Int)) (v : Bool) (h : s_gContainsFunc_int64_a a0 a1 a2 a3 a4 = some v) : (Option.bind (s_gIndexFunc_int64_a a0 a1 a2 a3 a4) fun r1 => (some [.v (.bool (decide (r1 ≥ 0)))])) = some (l_gContainsFunc_int64_a v) := by
  have e : (Option.bind (s_gIndexFunc_int64_a a0 a1 a2 a3 a4) fun r1 => (some [.v (.bool (decide (r1 ≥ 0)))])) = Option.map l_gContainsFunc_int64_a (s_gContainsFunc_int64_a a0 a1 a2 a3 a4) := by
    unfold s_gContainsFunc_int64_a
    exact (bind_app fun _ => rfl)
  rw [e, h]; rfl
noncomputable def c_gContainsFunc_int64_a : List A → ACall
  | [.lst (.one (.i .i64)) a0, .clo 189 [.ref (.rc [.v (.int .i8 a1), .v (.int .i8 a2), .fa 144 .u8 a3]), .ref (.lst (.one (.i .i64)) a4)]] => ⟨Bool, s_gContainsFunc_int64_a a0 a1 a2 a3 a4, fun r => .one (.v (.bool r))⟩
  | _ => ACall.fail
theorem f_gContainsFunc_int64_a_sound : Sound Try.prog 125 c_gContainsFunc_int64_a := by
  refine sound_good f_gContainsFunc_int64_a_ctx f_gContainsFunc_int64_a_LV 2 Try.func125 (c := f_gContainsFunc_int64_a_c) (by kernel_rfl) (rv := f_gContainsFunc_int64_a_rv) (by kernel_rfl) (by kernel_rfl) (by kernel_rfl) (by kernel_rfl) fun rs => ?_
  unfold c_gContainsFunc_int64_a
  split
  · rename_i a0 a1 a2 a3 a4; intro v h; exact ⟨rfl, l_gContainsFunc_int64_a v, rfl, (f_gContainsFunc_int64_a_top a0 a1 a2 a3 a4 _).trans (s_gContainsFunc_int64_a_ok a0 a1 a2 a3 a4 v h)⟩
  · intro v h; cases h
def m_gContainsFunc_int64_a : List A → Bool
  | [_, .clo 189 _] => true
  | _ => false

/-! ### function 144: loop.example/g01322/impl.areNeighbours -/
noncomputable def f_iareNeighbours_c : Code := match Try.f144.body with | some c => c | none => .skip
noncomputable def f_iareNeighbours_X : Ctx := ⟨TT, phiOf [(125, c_gContainsFunc_int64_a)], noPsi, noXi⟩
def f_iareNeighbours_LV : List (Nat × Keep) := []
def f_iareNeighbours_rv : List ResultVar := [.tmp 6]
noncomputable def f_iareNeighbours_L (r : List A) : Nat → AS → Option (List A) := L f_iareNeighbours_X (cnOf f_iareNeighbours_LV) f_iareNeighbours_c (K0 TT f_iareNeighbours_rv) r
theorem f_iareNeighbours_ctx : CtxOK Try.prog f_iareNeighbours_X := ctx_of tab mix ⟨⟨Try.call125, f_gContainsFunc_int64_a_sound⟩, trivial⟩
noncomputable def s_iareNeighbours (a0 : Int) (a1 : Int) (a2 : (Nat → Int)) (a3 : (List Int)) (a4 : (List Int)) : Option Bool := (Option.bind (s_gContainsFunc_int64_a a3 a0 a1 a2 a4) fun r1 => (some r1))
theorem f_iareNeighbours_top (a0 : Int) (a1 : Int) (a2 : (Nat → Int)) (a3 : (List Int)) (a4 : (List Int)) (r : List A) : ev f_iareNeighbours_X (lpc (cnOf f_iareNeighbours_LV) (f_iareNeighbours_L r)) f_iareNeighbours_c (K0 TT f_iareNeighbours_rv) (enter [.rc [.v (.int .i8 a0), .v (.int .i8 a1), .fa 144 .u8 a2], .lst (.one (.i .i64)) a3, .lst (.one (.i .i64)) a4]) = (Option.bind (s_gContainsFunc_int64_a a3 a0 a1 a2 a4) fun r1 => (some [.v (.bool r1)])) := by kernel_rfl
noncomputable def l_iareNeighbours (r : Bool) : List A := [.v (.bool r)]
theorem s_iareNeighbours_ok (a0 : Int) (a1 : Int) (a2 : (Nat → Int)) (a3 : (List Int)) (a4 : (List Int)) (v : Bool) (h : s_iareNeighbours a0 a1 a2 a3 a4 = some v) : (Option.bind (s_gContainsFunc_int64_a a3 a0 a1 a2 a4) fun r1 => (some [.v (.bool r1)])) = some (l_iareNeighbours v) := by
  have e : (Option.bind (s_gContainsFunc_int64_a a3 a0 a1 a2 a4) fun r1 => (some [.v (.bool r1)])) = Option.map l_iareNeighbours (s_iareNeighbours a0 a1 a2 a3 a4) := by
    unfold s_iareNeighbours
    exact (bind_app fun _ => rfl)
  rw [e, h]; rfl
noncomputable def c_iareNeighbours : List A → ACall
  | [.rc [.v (.int .i8 a0), .v (.int .i8 a1), .fa 144 .u8 a2], .lst (.one (.i .i64)) a3, .lst (.one (.i .i64)) a4] => ⟨Bool, s_iareNeighbours a0 a1 a2 a3 a4, fun r => .one (.v (.bool r))⟩
  | _ => ACall.fail
theorem f_iareNeighbours_sound : Sound Try.prog 144 c_iareNeighbours := by
  refine sound_good f_iareNeighbours_ctx f_iareNeighbours_LV 3 Try.func144 (c := f_iareNeighbours_c) (by kernel_rfl) (rv := f_iareNeighbours_rv) (by kernel_rfl) (by kernel_rfl) (by kernel_rfl) (by kernel_rfl) fun rs => ?_
  unfold c_iareNeighbours
  split
  · rename_i a0 a1 a2 a3 a4; intro v h; exact ⟨rfl, l_iareNeighbours v, rfl, (f_iareNeighbours_top a0 a1 a2 a3 a4 _).trans (s_iareNeighbours_ok a0 a1 a2 a3 a4 v h)⟩
  · intro v h; cases h

/-! ### function 66: loop.example/g01322/impl.JobsFor -/
noncomputable def f_iJobsFor_c : Code := match Try.f66.body with | some c => c | none => .skip
noncomputable def f_iJobsFor_X : Ctx := ⟨TT, phiOf [(142, c_iPicture_fields), (144, c_iareNeighbours), (86, c_iValidPicture), (91, c_icodeOf), (92, c_iwithin)], noPsi, (xiOf [(141, h_gDeleteFunc)])⟩
def f_iJobsFor_LV : List (Nat × Keep) := [(9, ([1, 2, 7, 8, 31, 32, 33], [], [])), (16, ([1, 2, 7, 8, 10, 12, 31, 32, 33, 49, 50, 51], [], []))]
def f_iJobsFor_rv : List ResultVar := [.tmp 4, .tmp 5]
noncomputable def f_iJobsFor_L (r : List A) : Nat → AS → Option (List A) := L f_iJobsFor_X (cnOf f_iJobsFor_LV) f_iJobsFor_c (K0 TT f_iJobsFor_rv) r
theorem f_iJobsFor_ctx : CtxOK Try.prog f_iJobsFor_X := ctx_ofH tab mix (l := [(142, c_iPicture_fields), (144, c_iareNeighbours), (86, c_iValidPicture), (91, c_icodeOf), (92, c_iwithin)]) ⟨⟨Try.call142, f_iPicture_fields_sound⟩, ⟨Try.call144, f_iareNeighbours_sound⟩, ⟨Try.call86, f_iValidPicture_sound⟩, ⟨Try.call91, f_icodeOf_sound⟩, ⟨Try.call92, f_iwithin_sound⟩, trivial⟩ psi_no (xi_ok (l := [(141, h_gDeleteFunc)]) ⟨⟨Try.call141, f_gDeleteFunc_sound⟩, trivial⟩)
noncomputable def f_iJobsFor_s9 (x0 : Int) (x1 : Int) (x2 : Int) (x3 : Int) (x4 : Int) (x5 : (Nat → Int)) (x6 : (List (List Int))) (x7 : (List (Int × Int))) : AS := ⟨[(1, .a (.v (.int .i64 x0))), (2, .a (.ptr 0 [] (0))), (7, .a (.sl 1)), (8, .a (.sl 2)), (31, .a (.sl 1)), (32, .a (.v (.int .i64 x1))), (33, .a (.v (.int .i64 x2)))], [(0, some ⟨true, .box (.rc [.v (.int .i8 x3), .v (.int .i8 x4), .fa 144 .u8 x5])⟩), (1, some ⟨true, .arr (.one (.ls .i64)) x6⟩), (2, some ⟨true, .arr (.st [(.i .i8), (.i .u16)]) x7⟩)], 3⟩
noncomputable def f_iJobsFor_s16 (x0 : Int) (x1 : Int) (x2 : Int) (x3 : Int) (x4 : Int) (x5 : Int) (x6 : Int) (x7 : (Nat → Int)) (x8 : (List (List Int))) (x9 : (List (Int × Int))) (x10 : (List Int)) (x11 : Int) (x12 : Int) : AS := ⟨[(1, .a (.v (.int .i64 x0))), (2, .a (.ptr 0 [] (0))), (7, .a (.sl 1)), (8, .a (.sl 2)), (10, .a (.sl 3)), (12, .a (.ptr 4 [] (0))), (31, .a (.sl 1)), (32, .a (.v (.int .i64 x1))), (33, .a (.v (.int .i64 x2))), (49, .a (.sl 1)), (50, .a (.v (.int .i64 x3))), (51, .a (.v (.int .i64 x4)))], [(0, some ⟨true, .box (.rc [.v (.int .i8 x5), .v (.int .i8 x6), .fa 144 .u8 x7])⟩), (1, some ⟨true, .arr (.one (.ls .i64)) x8⟩), (2, some ⟨true, .arr (.st [(.i .i8), (.i .u16)]) x9⟩), (3, some ⟨false, .arr (.one (.i .i64)) x10⟩), (4, some ⟨true, .box (.rc [.v (.int .i8 x11), .v (.int .u16 x12)])⟩)], 5⟩
noncomputable def l_iJobsFor (r : ((List (Int × Int)) × Int)) : List A := [.lst (.st [(.i .i8), (.i .u16)]) r.1, .v (.int .i64 r.2)]
theorem f_iJobsFor_step16 (x0 : Int) (x1 : Int) (x2 : Int) (x3 : Int) (x4 : Int) (x5 : Int) (x6 : Int) (x7 : (Nat → Int)) (x8 : (List (List Int))) (x9 : (List (Int × Int))) (x10 : (List Int)) (x11 : Int) (x12 : Int) (r : List A) (h : (cond (decide (x4 < x3)) (cond (inB x4 (List.length x8)) (cond (inB 0 (List.length (List.getD x8 (Int.toNat x4) ([] : List Int)))) (cond (inB (List.getD (List.getD x8 (Int.toNat x4) ([] : List Int)) 0 0) 144) (cond (inB 0 (List.length x10)) (cond (inB (List.getD x10 0 0) 144) (cond (decide ((x7 (Int.toNat (List.getD (List.getD x8 (Int.toNat x4) ([] : List Int)) 0 0))) < (x7 (Int.toNat (List.getD x10 0 0))))) (Option.bind (s_iareNeighbours x5 x6 x7 x10 (List.getD x8 (Int.toNat x4) ([] : List Int))) fun r3 => (cond r3 (cond (decide (x4 < 0)) none (f_iJobsFor_L r 16 (f_iJobsFor_s16 x0 x1 x2 x3 (IntKind.wrap .i64 (x4 + 1)) x5 x6 x7 x8 x9 x10 x11 (bOr .u16 x12 (bShl .u16 1 x4))))) (f_iJobsFor_L r 16 (f_iJobsFor_s16 x0 x1 x2 x3 (IntKind.wrap .i64 (x4 + 1)) x5 x6 x7 x8 x9 x10 x11 x12)))) (f_iJobsFor_L r 16 (f_iJobsFor_s16 x0 x1 x2 x3 (IntKind.wrap .i64 (x4 + 1)) x5 x6 x7 x8 x9 x10 x11 x12))) none) none) none) none) none) (cond (fits ((List.length (x9 : List (Int × Int)) + List.length ([(x11, x12)] : List (Int × Int))) * 4)) (f_iJobsFor_L r 9 (f_iJobsFor_s9 x0 x1 (IntKind.wrap .i64 (x2 + 1)) x5 x6 x7 x8 (x9 ++ [(x11, x12)]))) none)) = some r) : f_iJobsFor_L r 16 (f_iJobsFor_s16 x0 x1 x2 x3 x4 x5 x6 x7 x8 x9 x10 x11 x12) = some r :=
  step_of' h (by kernel_rfl)
noncomputable def f_iJobsFor_n16 (x0 : Int) (x1 : Int) (x2 : Int) (x3 : Int) (x4 : Int) (x5 : Int) (x6 : Int) (x7 : (Nat → Int)) (x8 : (List (List Int))) (x9 : (List (Int × Int))) (x10 : (List Int)) (x11 : Int) (x12 : Int) : Option ((Int × Int × Int × Int × Int × Int × Int × (Nat → Int) × (List (List Int)) × (List (Int × Int)) × (List Int) × Int × Int) ⊕ ((Int × Int × Int × Int × Int × (Nat → Int) × (List (List Int)) × (List (Int × Int))) ⊕ ((List (Int × Int)) × Int))) := (cond (decide (x4 < x3)) (cond (inB x4 (List.length x8)) (cond (inB 0 (List.length (List.getD x8 (Int.toNat x4) ([] : List Int)))) (cond (inB (List.getD (List.getD x8 (Int.toNat x4) ([] : List Int)) 0 0) 144) (cond (inB 0 (List.length x10)) (cond (inB (List.getD x10 0 0) 144) (cond (decide ((x7 (Int.toNat (List.getD (List.getD x8 (Int.toNat x4) ([] : List Int)) 0 0))) < (x7 (Int.toNat (List.getD x10 0 0))))) (Option.bind (s_iareNeighbours x5 x6 x7 x10 (List.getD x8 (Int.toNat x4) ([] : List Int))) fun r3 => (cond r3 (cond (decide (x4 < 0)) none (some (Sum.inl (x0, x1, x2, x3, (IntKind.wrap .i64 (x4 + 1)), x5, x6, x7, x8, x9, x10, x11, (bOr .u16 x12 (bShl .u16 1 x4)))))) (some (Sum.inl (x0, x1, x2, x3, (IntKind.wrap .i64 (x4 + 1)), x5, x6, x7, x8, x9, x10, x11, x12))))) (some (Sum.inl (x0, x1, x2, x3, (IntKind.wrap .i64 (x4 + 1)), x5, x6, x7, x8, x9, x10, x11, x12)))) none) none) none) none) none) (cond (fits ((List.length (x9 : List (Int × Int)) + List.length ([(x11, x12)] : List (Int × Int))) * 4)) (some (Sum.inr (Sum.inl (x0, x1, (IntKind.wrap .i64 (x2 + 1)), x5, x6, x7, x8, (x9 ++ [(x11, x12)]))))) none))
noncomputable def f_iJobsFor_run16 (x : (Int × Int × Int × Int × Int × Int × Int × (Nat → Int) × (List (List Int)) × (List (Int × Int)) × (List Int) × Int × Int)) : Option ((Int × Int × Int × Int × Int × (Nat → Int) × (List (List Int)) × (List (Int × Int))) ⊕ ((List (Int × Int)) × Int)) := iter (fun x => f_iJobsFor_n16 x.1 x.2.1 x.2.2.1 x.2.2.2.1 x.2.2.2.2.1 x.2.2.2.2.2.1 x.2.2.2.2.2.2.1 x.2.2.2.2.2.2.2.1 x.2.2.2.2.2.2.2.2.1 x.2.2.2.2.2.2.2.2.2.1 x.2.2.2.2.2.2.2.2.2.2.1 x.2.2.2.2.2.2.2.2.2.2.2.1 x.2.2.2.2.2.2.2.2.2.2.2.2) FU x
noncomputable def f_iJobsFor_G16 (r : List A) (x : (Int × Int × Int × Int × Int × Int × Int × (Nat → Int) × (List (List Int)) × (List (Int × Int)) × (List Int) × Int × Int)) : Prop := f_iJobsFor_L r 16 (f_iJobsFor_s16 x.1 x.2.1 x.2.2.1 x.2.2.2.1 x.2.2.2.2.1 x.2.2.2.2.2.1 x.2.2.2.2.2.2.1 x.2.2.2.2.2.2.2.1 x.2.2.2.2.2.2.2.2.1 x.2.2.2.2.2.2.2.2.2.1 x.2.2.2.2.2.2.2.2.2.2.1 x.2.2.2.2.2.2.2.2.2.2.2.1 x.2.2.2.2.2.2.2.2.2.2.2.2) = some r
theorem f_iJobsFor_step9 (x0 : Int) (x1 : Int) (x2 : Int) (x3 : Int) (x4 : Int) (x5 : (Nat → Int)) (x6 : (List (List Int))) (x7 : (List (Int × Int))) (r : List A) (h : (cond (decide (x2 < x1)) (cond (inB x2 (List.length x6)) (cond (decide (x0 = 0)) none (cond (decide ((IntKind.wrap .i64 (Int.tdiv (IntKind.wrap .i64 ((IntKind.wrap .i64 (((List.length (List.getD x6 (Int.toNat x2) ([] : List Int)) : Nat) : Int) + x0)) - 1)) x0)) > 30)) (some [.lst (.st [(.i .i8), (.i .u16)]) [], .v (.int .i64 3)]) (f_iJobsFor_L r 16 (f_iJobsFor_s16 x0 x1 x2 ((List.length x6 : Nat) : Int) 0 x3 x4 x5 x6 x7 (List.getD x6 (Int.toNat x2) ([] : List Int)) (IntKind.wrap .i8 (IntKind.wrap .i64 (Int.tdiv (IntKind.wrap .i64 ((IntKind.wrap .i64 (((List.length (List.getD x6 (Int.toNat x2) ([] : List Int)) : Nat) : Int) + x0)) - 1)) x0))) 0)))) none) (some [.lst (.st [(.i .i8), (.i .u16)]) x7, .v (.int .i64 0)])) = some r) : f_iJobsFor_L r 9 (f_iJobsFor_s9 x0 x1 x2 x3 x4 x5 x6 x7) = some r :=
  step_of' h (by kernel_rfl)
noncomputable def f_iJobsFor_n9 (x0 : Int) (x1 : Int) (x2 : Int) (x3 : Int) (x4 : Int) (x5 : (Nat → Int)) (x6 : (List (List Int))) (x7 : (List (Int × Int))) : Option ((Int × Int × Int × Int × Int × (Nat → Int) × (List (List Int)) × (List (Int × Int))) ⊕ ((List (Int × Int)) × Int)) := (cond (decide (x2 < x1)) (cond (inB x2 (List.length x6)) (cond (decide (x0 = 0)) none (cond (decide ((IntKind.wrap .i64 (Int.tdiv (IntKind.wrap .i64 ((IntKind.wrap .i64 (((List.length (List.getD x6 (Int.toNat x2) ([] : List Int)) : Nat) : Int) + x0)) - 1)) x0)) > 30)) (some (Sum.inr ([], 3))) (f_iJobsFor_run16 (x0, x1, x2, ((List.length x6 : Nat) : Int), 0, x3, x4, x5, x6, x7, (List.getD x6 (Int.toNat x2) ([] : List Int)), (IntKind.wrap .i8 (IntKind.wrap .i64 (Int.tdiv (IntKind.wrap .i64 ((IntKind.wrap .i64 (((List.length (List.getD x6 (Int.toNat x2) ([] : List Int)) : Nat) : Int) + x0)) - 1)) x0))), 0)))) none) (some (Sum.inr (x7, 0))))
noncomputable def f_iJobsFor_run9 (x : (Int × Int × Int × Int × Int × (Nat → Int) × (List (List Int)) × (List (Int × Int)))) : Option ((List (Int × Int)) × Int) := iter (fun x => f_iJobsFor_n9 x.1 x.2.1 x.2.2.1 x.2.2.2.1 x.2.2.2.2.1 x.2.2.2.2.2.1 x.2.2.2.2.2.2.1 x.2.2.2.2.2.2.2) FU x
noncomputable def f_iJobsFor_G9 (r : List A) (x : (Int × Int × Int × Int × Int × (Nat → Int) × (List (List Int)) × (List (Int × Int)))) : Prop := f_iJobsFor_L r 9 (f_iJobsFor_s9 x.1 x.2.1 x.2.2.1 x.2.2.2.1 x.2.2.2.2.1 x.2.2.2.2.2.1 x.2.2.2.2.2.2.1 x.2.2.2.2.2.2.2) = some r
noncomputable def f_iJobsFor_S9 (r : List A) : ((List (Int × Int)) × Int) → Prop := fun v => r = l_iJobsFor v
noncomputable def f_iJobsFor_S16 (r : List A) : ((Int × Int × Int × Int × Int × (Nat → Int) × (List (List Int)) × (List (Int × Int))) ⊕ ((List (Int × Int)) × Int)) → Prop := goesOn (f_iJobsFor_G9 r) (f_iJobsFor_S9 r)
theorem f_iJobsFor_go16 (r : List A) : ∀ x, sem (f_iJobsFor_S16 r) (f_iJobsFor_run16 x) → f_iJobsFor_G16 r x :=
  fun x => iter_sound (step := fun x => f_iJobsFor_n16 x.1 x.2.1 x.2.2.1 x.2.2.2.1 x.2.2.2.2.1 x.2.2.2.2.2.1 x.2.2.2.2.2.2.1 x.2.2.2.2.2.2.2.1 x.2.2.2.2.2.2.2.2.1 x.2.2.2.2.2.2.2.2.2.1 x.2.2.2.2.2.2.2.2.2.2.1 x.2.2.2.2.2.2.2.2.2.2.2.1 x.2.2.2.2.2.2.2.2.2.2.2.2) (fun x h => by
    unfold f_iJobsFor_n16 at h
    exact f_iJobsFor_step16 x.1 x.2.1 x.2.2.1 x.2.2.2.1 x.2.2.2.2.1 x.2.2.2.2.2.1 x.2.2.2.2.2.2.1 x.2.2.2.2.2.2.2.1 x.2.2.2.2.2.2.2.2.1 x.2.2.2.2.2.2.2.2.2.1 x.2.2.2.2.2.2.2.2.2.2.1 x.2.2.2.2.2.2.2.2.2.2.2.1 x.2.2.2.2.2.2.2.2.2.2.2.2 r ((sem_cond h (fun h => (sem_cond h (fun h => (sem_cond h (fun h => (sem_cond h (fun h => (sem_cond h (fun h => (sem_cond h (fun h => (sem_cond h (fun h => (sem_bind h fun r3 h => (sem_cond h (fun h => (sem_cond h (fun h => sem_none h) (fun h => sem_got h fun q => q))) (fun h => sem_got h fun q => q)))) (fun h => sem_got h fun q => q))) (fun h => sem_none h))) (fun h => sem_none h))) (fun h => sem_none h))) (fun h => sem_none h))) (fun h => sem_none h))) (fun h => (sem_cond h (fun h => sem_got h fun q => q) (fun h => sem_none h)))))) FU x
theorem f_iJobsFor_go9 (r : List A) : ∀ x, sem (f_iJobsFor_S9 r) (f_iJobsFor_run9 x) → f_iJobsFor_G9 r x :=
  fun x => iter_sound (step := fun x => f_iJobsFor_n9 x.1 x.2.1 x.2.2.1 x.2.2.2.1 x.2.2.2.2.1 x.2.2.2.2.2.1 x.2.2.2.2.2.2.1 x.2.2.2.2.2.2.2) (fun x h => by
    unfold f_iJobsFor_n9 at h
    exact f_iJobsFor_step9 x.1 x.2.1 x.2.2.1 x.2.2.2.1 x.2.2.2.2.1 x.2.2.2.2.2.1 x.2.2.2.2.2.2.1 x.2.2.2.2.2.2.2 r ((sem_cond h (fun h => (sem_cond h (fun h => (sem_cond h (fun h => sem_none h) (fun h => (sem_cond h (fun h => sem_got h fun q => some_eq q) (fun h => f_iJobsFor_go16 r _ h))))) (fun h => sem_none h))) (fun h => sem_got h fun q => some_eq q)))) FU x
noncomputable def s_iJobsFor (a0 : Int) (a1 : Int) (a2 : (Nat → Int)) (a3 : Int) : Option ((List (Int × Int)) × Int) := (cond ((s_icodeOf (s_iValidPicture a0 a1 a2) (s_iwithin a3 1 144)) != 0) (some ([], (s_icodeOf (s_iValidPicture a0 a1 a2) (s_iwithin a3 1 144)))) (Option.bind (s_iPicture_fields a0 a1 a2) fun r1 => (Option.bind (s_gDeleteFunc r1 a0 a1 a2) fun r2 => (cond (decide (((List.length r2.1 : Nat) : Int) > 12)) (some ([], 3)) (f_iJobsFor_run9 (a3, ((List.length r2.1 : Nat) : Int), 0, r2.2.1, r2.2.2.1, r2.2.2.2, r2.1, []))))))
theorem f_iJobsFor_top (a0 : Int) (a1 : Int) (a2 : (Nat → Int)) (a3 : Int) (r : List A) : ev f_iJobsFor_X (lpc (cnOf f_iJobsFor_LV) (f_iJobsFor_L r)) f_iJobsFor_c (K0 TT f_iJobsFor_rv) (enter [.rc [.v (.int .i8 a0), .v (.int .i8 a1), .fa 144 .u8 a2], .v (.int .i64 a3)]) = (cond ((s_icodeOf (s_iValidPicture a0 a1 a2) (s_iwithin a3 1 144)) != 0) (some [.lst (.st [(.i .i8), (.i .u16)]) [], .v (.int .i64 (s_icodeOf (s_iValidPicture a0 a1 a2) (s_iwithin a3 1 144)))]) (Option.bind (s_iPicture_fields a0 a1 a2) fun r1 => (Option.bind (s_gDeleteFunc r1 a0 a1 a2) fun r2 => (cond (decide (((List.length r2.1 : Nat) : Int) > 12)) (some [.lst (.st [(.i .i8), (.i .u16)]) [], .v (.int .i64 3)]) (f_iJobsFor_L r 9 (f_iJobsFor_s9 a3 ((List.length r2.1 : Nat) : Int) 0 r2.2.1 r2.2.2.1 r2.2.2.2 r2.1 [])))))) := by kernel_rfl
theorem s_iJobsFor_ok (a0 : Int) (a1 : Int) (a2 : (Nat → Int)) (a3 : Int) (v : ((List (Int × Int)) × Int)) (h : s_iJobsFor a0 a1 a2 a3 = some v) : (cond ((s_icodeOf (s_iValidPicture a0 a1 a2) (s_iwithin a3 1 144)) != 0) (some [.lst (.st [(.i .i8), (.i .u16)]) [], .v (.int .i64 (s_icodeOf (s_iValidPicture a0 a1 a2) (s_iwithin a3 1 144)))]) (Option.bind (s_iPicture_fields a0 a1 a2) fun r1 => (Option.bind (s_gDeleteFunc r1 a0 a1 a2) fun r2 => (cond (decide (((List.length r2.1 : Nat) : Int) > 12)) (some [.lst (.st [(.i .i8), (.i .u16)]) [], .v (.int .i64 3)]) (f_iJobsFor_L (l_iJobsFor v) 9 (f_iJobsFor_s9 a3 ((List.length r2.1 : Nat) : Int) 0 r2.2.1 r2.2.2.1 r2.2.2.2 r2.1 [])))))) = some (l_iJobsFor v) := by
  unfold s_iJobsFor at h
  have go : ∀ r, sem (fun v => r = l_iJobsFor v) ((cond ((s_icodeOf (s_iValidPicture a0 a1 a2) (s_iwithin a3 1 144)) != 0) (some ([], (s_icodeOf (s_iValidPicture a0 a1 a2) (s_iwithin a3 1 144)))) (Option.bind (s_iPicture_fields a0 a1 a2) fun r1 => (Option.bind (s_gDeleteFunc r1 a0 a1 a2) fun r2 => (cond (decide (((List.length r2.1 : Nat) : Int) > 12)) (some ([], 3)) (f_iJobsFor_run9 (a3, ((List.length r2.1 : Nat) : Int), 0, r2.2.1, r2.2.2.1, r2.2.2.2, r2.1, []))))))) → (cond ((s_icodeOf (s_iValidPicture a0 a1 a2) (s_iwithin a3 1 144)) != 0) (some [.lst (.st [(.i .i8), (.i .u16)]) [], .v (.int .i64 (s_icodeOf (s_iValidPicture a0 a1 a2) (s_iwithin a3 1 144)))]) (Option.bind (s_iPicture_fields a0 a1 a2) fun r1 => (Option.bind (s_gDeleteFunc r1 a0 a1 a2) fun r2 => (cond (decide (((List.length r2.1 : Nat) : Int) > 12)) (some [.lst (.st [(.i .i8), (.i .u16)]) [], .v (.int .i64 3)]) (f_iJobsFor_L r 9 (f_iJobsFor_s9 a3 ((List.length r2.1 : Nat) : Int) 0 r2.2.1 r2.2.2.1 r2.2.2.2 r2.1 [])))))) = some r := fun r h => (sem_cond h (fun h => sem_got h fun q => some_eq q) (fun h => (sem_bind h fun r1 h => (sem_bind h fun r2 h => (sem_cond h (fun h => sem_got h fun q => some_eq q) (fun h => f_iJobsFor_go9 r _ h))))))
  exact go (l_iJobsFor v) ⟨v, h, rfl⟩
noncomputable def c_iJobsFor : List A → ACall
  | [.rc [.v (.int .i8 a0), .v (.int .i8 a1), .fa 144 .u8 a2], .v (.int .i64 a3)] => ⟨((List (Int × Int)) × Int), s_iJobsFor a0 a1 a2 a3, fun r => .tup [.lst (.st [(.i .i8), (.i .u16)]) r.1, .v (.int .i64 r.2)]⟩
  | _ => ACall.fail
theorem f_iJobsFor_sound : Sound Try.prog 66 c_iJobsFor := by
  refine sound_good f_iJobsFor_ctx f_iJobsFor_LV 2 Try.func66 (c := f_iJobsFor_c) (by kernel_rfl) (rv := f_iJobsFor_rv) (by kernel_rfl) (by kernel_rfl) (by kernel_rfl) (by kernel_rfl) fun rs => ?_
  unfold c_iJobsFor
  split
  · rename_i a0 a1 a2 a3; intro v h; exact ⟨rfl, l_iJobsFor v, rfl, (f_iJobsFor_top a0 a1 a2 a3 _).trans (s_iJobsFor_ok a0 a1 a2 a3 v h)⟩
  · intro v h; cases h

/-! ### function 9: loop.example/g01322/laws.FnExactJobsFor -/
noncomputable def f_wFnExactJobsFor_c : Code := match Try.f9.body with | some c => c | none => .skip
noncomputable def f_wFnExactJobsFor_X : Ctx := ⟨TT, phiOf [(29, c_weqJobS), (64, c_sJobsFor), (65, c_wtoPicture), (66, c_iJobsFor), (67, c_wheldJobS)], (psiOf [(36, u_wmarkJobS)]), noXi⟩
def f_wFnExactJobsFor_LV : List (Nat × Keep) := []
def f_wFnExactJobsFor_rv : List ResultVar := [.tmp 4]
noncomputable def f_wFnExactJobsFor_L (r : List A) : Nat → AS → Option (List A) := L f_wFnExactJobsFor_X (cnOf f_wFnExactJobsFor_LV) f_wFnExactJobsFor_c (K0 TT f_wFnExactJobsFor_rv) r
theorem f_wFnExactJobsFor_ctx : CtxOK Try.prog f_wFnExactJobsFor_X := ctx_ofH tab mix (l := [(29, c_weqJobS), (64, c_sJobsFor), (65, c_wtoPicture), (66, c_iJobsFor), (67, c_wheldJobS)]) ⟨⟨Try.call29, f_weqJobS_sound⟩, ⟨Try.call64, f_sJobsFor_sound⟩, ⟨Try.call65, f_wtoPicture_sound⟩, ⟨Try.call66, f_iJobsFor_sound⟩, ⟨Try.call67, f_wheldJobS_sound⟩, trivial⟩ (psi_ok (l := [(36, u_wmarkJobS)]) ⟨⟨Try.call36, f_wmarkJobS_sound⟩, trivial⟩) xi_no
noncomputable def s_wFnExactJobsFor (a0 : Int) (a1 : Int) (a2 : (Nat → Int)) (a3 : Int) : Option Bool := (Option.bind (s_sJobsFor (s_wtoPicture a0 a1 a2).1 (s_wtoPicture a0 a1 a2).2.1 (s_wtoPicture a0 a1 a2).2.2 a3) fun r1 => (Option.bind (s_iJobsFor (s_wtoPicture a0 a1 a2).1 (s_wtoPicture a0 a1 a2).2.1 (s_wtoPicture a0 a1 a2).2.2 a3) fun r2 => (Option.bind (s_weqJobS (r2.1) (r1.1)) fun r3 => (cond (!r3) (some false) (cond (r2.2 != r1.2) (some false) (Option.bind (s_wmarkJobS (r2.1) 1) fun r4 => (Option.bind (s_wheldJobS (r4.2) 1) fun r5 => (cond (decide (r5 < 0)) (some false) (cond (r5 != r4.1) (some false) (Option.bind (s_iJobsFor (s_wtoPicture a0 a1 a2).1 (s_wtoPicture a0 a1 a2).2.1 (s_wtoPicture a0 a1 a2).2.2 a3) fun r6 => (Option.bind (s_weqJobS (r6.1) (r1.1)) fun r7 => (cond (!r7) (some false) (cond (r6.2 != r1.2) (some false) (Option.bind (s_wheldJobS (r4.2) 1) fun r8 => (cond (decide (r8 < 0)) (some false) (cond (r8 != r4.1) (some false) (some true)))))))))))))))))
theorem f_wFnExactJobsFor_top (a0 : Int) (a1 : Int) (a2 : (Nat → Int)) (a3 : Int) (r : List A) : ev f_wFnExactJobsFor_X (lpc (cnOf f_wFnExactJobsFor_LV) (f_wFnExactJobsFor_L r)) f_wFnExactJobsFor_c (K0 TT f_wFnExactJobsFor_rv) (enter [.rc [.v (.int .i8 a0), .v (.int .i8 a1), .fa 144 .u8 a2], .v (.int .i64 a3)]) = (Option.bind (s_sJobsFor (s_wtoPicture a0 a1 a2).1 (s_wtoPicture a0 a1 a2).2.1 (s_wtoPicture a0 a1 a2).2.2 a3) fun r1 => (Option.bind (s_iJobsFor (s_wtoPicture a0 a1 a2).1 (s_wtoPicture a0 a1 a2).2.1 (s_wtoPicture a0 a1 a2).2.2 a3) fun r2 => (Option.bind (s_weqJobS (r2.1) (r1.1)) fun r3 => (cond (!r3) (some [.v (.bool false)]) (cond (r2.2 != r1.2) (some [.v (.bool false)]) (Option.bind (s_wmarkJobS (r2.1) 1) fun r4 => (Option.bind (s_wheldJobS (r4.2) 1) fun r5 => (cond (decide (r5 < 0)) (some [.v (.bool false)]) (cond (r5 != r4.1) (some [.v (.bool false)]) (Option.bind (s_iJobsFor (s_wtoPicture a0 a1 a2).1 (s_wtoPicture a0 a1 a2).2.1 (s_wtoPicture a0 a1 a2).2.2 a3) fun r6 => (Option.bind (s_weqJobS (r6.1) (r1.1)) fun r7 => (cond (!r7) (some [.v (.bool false)]) (cond (r6.2 != r1.2) (some [.v (.bool false)]) (Option.bind (s_wheldJobS (r4.2) 1) fun r8 => (cond (decide (r8 < 0)) (some [.v (.bool false)]) (cond (r8 != r4.1) (some [.v (.bool false)]) (some [.v (.bool true)]))))))))))))))))) := by kernel_rfl
noncomputable def l_wFnExactJobsFor (r : Bool) : List A := [.v (.bool r)]
theorem s_wFnExactJobsFor_ok (a0 : Int) (a1 : Int) (a2 : (Nat → Int)) (a3 : Int) (v : Bool) (h : s_wFnExactJobsFor a0 a1 a2 a3 = some v) : (Option.bind (s_sJobsFor (s_wtoPicture a0 a1 a2).1 (s_wtoPicture a0 a1 a2).2.1 (s_wtoPicture a0 a1 a2).2.2 a3) fun r1 => (Option.bind (s_iJobsFor (s_wtoPicture a0 a1 a2).1 (s_wtoPicture a0 a1 a2).2.1 (s_wtoPicture a0 a1 a2).2.2 a3) fun r2 => (Option.bind (s_weqJobS (r2.1) (r1.1)) fun r3 => (cond (!r3) (some [.v (.bool false)]) (cond (r2.2 != r1.2) (some [.v (.bool false)]) (Option.bind (s_wmarkJobS (r2.1) 1) fun r4 => (Option.bind (s_wheldJobS (r4.2) 1) fun r5 => (cond (decide (r5 < 0)) (some [.v (.bool false)]) (cond (r5 != r4.1) (some [.v (.bool false)]) (Option.bind (s_iJobsFor (s_wtoPicture a0 a1 a2).1 (s_wtoPicture a0 a1 a2).2.1 (s_wtoPicture a0 a1 a2).2.2 a3) fun r6 => (Option.bind (s_weqJobS (r6.1) (r1.1)) fun r7 => (cond (!r7) (some [.v (.bool false)]) (cond (r6.2 != r1.2) (some [.v (.bool false)]) (Option.bind (s_wheldJobS (r4.2) 1) fun r8 => (cond (decide (r8 < 0)) (some [.v (.bool false)]) (cond (r8 != r4.1) (some [.v (.bool false)]) (some [.v (.bool true)]))))))))))))))))) = some (l_wFnExactJobsFor v) := by
  have e : (Option.bind (s_sJobsFor (s_wtoPicture a0 a1 a2).1 (s_wtoPicture a0 a1 a2).2.1 (s_wtoPicture a0 a1 a2).2.2 a3) fun r1 => (Option.bind (s_iJobsFor (s_wtoPicture a0 a1 a2).1 (s_wtoPicture a0 a1 a2).2.1 (s_wtoPicture a0 a1 a2).2.2 a3) fun r2 => (Option.bind (s_weqJobS (r2.1) (r1.1)) fun r3 => (cond (!r3) (some [.v (.bool false)]) (cond (r2.2 != r1.2) (some [.v (.bool false)]) (Option.bind (s_wmarkJobS (r2.1) 1) fun r4 => (Option.bind (s_wheldJobS (r4.2) 1) fun r5 => (cond (decide (r5 < 0)) (some [.v (.bool false)]) (cond (r5 != r4.1) (some [.v (.bool false)]) (Option.bind (s_iJobsFor (s_wtoPicture a0 a1 a2).1 (s_wtoPicture a0 a1 a2).2.1 (s_wtoPicture a0 a1 a2).2.2 a3) fun r6 => (Option.bind (s_weqJobS (r6.1) (r1.1)) fun r7 => (cond (!r7) (some [.v (.bool false)]) (cond (r6.2 != r1.2) (some [.v (.bool false)]) (Option.bind (s_wheldJobS (r4.2) 1) fun r8 => (cond (decide (r8 < 0)) (some [.v (.bool false)]) (cond (r8 != r4.1) (some [.v (.bool false)]) (some [.v (.bool true)]))))))))))))))))) = Option.map l_wFnExactJobsFor (s_wFnExactJobsFor a0 a1 a2 a3) := by
    unfold s_wFnExactJobsFor
    exact (bind_app fun _ => (bind_app fun _ => (bind_app fun _ => (cond_app (Option.map l_wFnExactJobsFor) rfl (cond_app (Option.map l_wFnExactJobsFor) rfl (bind_app fun _ => (bind_app fun _ => (cond_app (Option.map l_wFnExactJobsFor) rfl (cond_app (Option.map l_wFnExactJobsFor) rfl (bind_app fun _ => (bind_app fun _ => (cond_app (Option.map l_wFnExactJobsFor) rfl (cond_app (Option.map l_wFnExactJobsFor) rfl (bind_app fun _ => (cond_app (Option.map l_wFnExactJobsFor) rfl (cond_app (Option.map l_wFnExactJobsFor) rfl rfl))))))))))))))))
  rw [e, h]; rfl
noncomputable def c_wFnExactJobsFor : List A → ACall
  | [.rc [.v (.int .i8 a0), .v (.int .i8 a1), .fa 144 .u8 a2], .v (.int .i64 a3)] => ⟨Bool, s_wFnExactJobsFor a0 a1 a2 a3, fun r => .one (.v (.bool r))⟩
  | _ => ACall.fail
theorem f_wFnExactJobsFor_sound : Sound Try.prog 9 c_wFnExactJobsFor := by
  refine sound_good f_wFnExactJobsFor_ctx f_wFnExactJobsFor_LV 2 Try.func9 (c := f_wFnExactJobsFor_c) (by kernel_rfl) (rv := f_wFnExactJobsFor_rv) (by kernel_rfl) (by kernel_rfl) (by kernel_rfl) (by kernel_rfl) fun rs => ?_
  unfold c_wFnExactJobsFor
  split
  · rename_i a0 a1 a2 a3; intro v h; exact ⟨rfl, l_wFnExactJobsFor v, rfl, (f_wFnExactJobsFor_top a0 a1 a2 a3 _).trans (s_wFnExactJobsFor_ok a0 a1 a2 a3 v h)⟩
  · intro v h; cases h
end Go.RR
