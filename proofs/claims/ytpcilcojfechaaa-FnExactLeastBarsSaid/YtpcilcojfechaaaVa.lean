/- Rows: bricks, clashes. -/
import Derived.Test.YtpcilcojfechaaaTb
import Derived.Test.YtpcilcojfechaaaRw
set_option linter.unusedVariables false
set_option linter.unusedSimpArgs false
set_option linter.unusedSectionVars false
set_option maxRecDepth 100000
namespace Go.RR
open Go Go.Proofs

/-! ### function 27: loop.example/g01322/impl.within -/
noncomputable def f_iwithin_c : Code := match Try.f27.body with | some c => c | none => .skip
noncomputable def f_iwithin_X : Ctx := ⟨TT, phiOf [], noPsi, noXi⟩
def f_iwithin_LV : List (Nat × Keep) := []
def f_iwithin_rv : List ResultVar := [.tmp 6]
noncomputable def f_iwithin_L (r : List A) : Nat → AS → Option (List A) := L f_iwithin_X (cnOf f_iwithin_LV) f_iwithin_c (K0 TT f_iwithin_rv) r
theorem f_iwithin_ctx : CtxOK Try.prog f_iwithin_X := ctx_of tab mix trivial
noncomputable def s_iwithin (a0 : Int) (a1 : Int) (a2 : Int) : Bool := (cond (decide (a1 ≤ a0)) (decide (a0 ≤ a2)) false)
theorem f_iwithin_top (a0 : Int) (a1 : Int) (a2 : Int) (r : List A) : ev f_iwithin_X (lpc (cnOf f_iwithin_LV) (f_iwithin_L r)) f_iwithin_c (K0 TT f_iwithin_rv) (enter [.v (.int .i64 a0), .v (.int .i64 a1), .v (.int .i64 a2)]) = (cond (decide (a1 ≤ a0)) (some [.v (.bool (decide (a0 ≤ a2)))]) (some [.v (.bool false)])) := by kernel_rfl
noncomputable def l_iwithin (r : Bool) : List A := [.v (.bool r)]
theorem s_iwithin_ok (a0 : Int) (a1 : Int) (a2 : Int) : (cond (decide (a1 ≤ a0)) (some [.v (.bool (decide (a0 ≤ a2)))]) (some [.v (.bool false)])) = some (l_iwithin (s_iwithin a0 a1 a2)) := by
  unfold s_iwithin
  exact (cond_app (fun x => some (l_iwithin x)) rfl rfl)
noncomputable def c_iwithin : List A → ACall
  | [.v (.int .i64 a0), .v (.int .i64 a1), .v (.int .i64 a2)] => ⟨Bool, some (s_iwithin a0 a1 a2), fun r => .one (.v (.bool r))⟩
  | _ => ACall.fail
theorem f_iwithin_sound : Sound Try.prog 27 c_iwithin := by
  refine sound_good f_iwithin_ctx f_iwithin_LV 3 Try.func27 (c := f_iwithin_c) (by kernel_rfl) (rv := f_iwithin_rv) (by kernel_rfl) (by kernel_rfl) (by kernel_rfl) (by kernel_rfl) fun rs => ?_
  unfold c_iwithin
  split
  · rename_i a0 a1 a2; intro v h; cases h; exact ⟨rfl, l_iwithin (s_iwithin a0 a1 a2), rfl, (f_iwithin_top a0 a1 a2 _).trans (s_iwithin_ok a0 a1 a2)⟩
  · intro v h; cases h

/-! ### function 24: loop.example/g01322/impl.isLong -/
noncomputable def f_iisLong_c : Code := match Try.f24.body with | some c => c | none => .skip
noncomputable def f_iisLong_X : Ctx := ⟨TT, phiOf [(27, c_iwithin)], noPsi, noXi⟩
def f_iisLong_LV : List (Nat × Keep) := []
def f_iisLong_rv : List ResultVar := [.tmp 2]
noncomputable def f_iisLong_L (r : List A) : Nat → AS → Option (List A) := L f_iisLong_X (cnOf f_iisLong_LV) f_iisLong_c (K0 TT f_iisLong_rv) r
theorem f_iisLong_ctx : CtxOK Try.prog f_iisLong_X := ctx_of tab mix ⟨⟨Try.call27, f_iwithin_sound⟩, trivial⟩
noncomputable def s_iisLong (a0 : Int) : Bool := (s_iwithin a0 1 2000)
theorem f_iisLong_top (a0 : Int) (r : List A) : ev f_iisLong_X (lpc (cnOf f_iisLong_LV) (f_iisLong_L r)) f_iisLong_c (K0 TT f_iisLong_rv) (enter [.v (.int .i64 a0)]) = (some [.v (.bool (s_iwithin a0 1 2000))]) := by kernel_rfl
noncomputable def l_iisLong (r : Bool) : List A := [.v (.bool r)]
theorem s_iisLong_ok (a0 : Int) : (some [.v (.bool (s_iwithin a0 1 2000))]) = some (l_iisLong (s_iisLong a0)) := by
  unfold s_iisLong
  exact rfl
noncomputable def c_iisLong : List A → ACall
  | [.v (.int .i64 a0)] => ⟨Bool, some (s_iisLong a0), fun r => .one (.v (.bool r))⟩
  | _ => ACall.fail
theorem f_iisLong_sound : Sound Try.prog 24 c_iisLong := by
  refine sound_good f_iisLong_ctx f_iisLong_LV 1 Try.func24 (c := f_iisLong_c) (by kernel_rfl) (rv := f_iisLong_rv) (by kernel_rfl) (by kernel_rfl) (by kernel_rfl) (by kernel_rfl) fun rs => ?_
  unfold c_iisLong
  split
  · rename_i a0; intro v h; cases h; exact ⟨rfl, l_iisLong (s_iisLong a0), rfl, (f_iisLong_top a0 _).trans (s_iisLong_ok a0)⟩
  · intro v h; cases h

/-! ### function 25: loop.example/g01322/impl.isSeam -/
noncomputable def f_iisSeam_c : Code := match Try.f25.body with | some c => c | none => .skip
noncomputable def f_iisSeam_X : Ctx := ⟨TT, phiOf [(27, c_iwithin)], noPsi, noXi⟩
def f_iisSeam_LV : List (Nat × Keep) := []
def f_iisSeam_rv : List ResultVar := [.tmp 2]
noncomputable def f_iisSeam_L (r : List A) : Nat → AS → Option (List A) := L f_iisSeam_X (cnOf f_iisSeam_LV) f_iisSeam_c (K0 TT f_iisSeam_rv) r
theorem f_iisSeam_ctx : CtxOK Try.prog f_iisSeam_X := ctx_of tab mix ⟨⟨Try.call27, f_iwithin_sound⟩, trivial⟩
noncomputable def s_iisSeam (a0 : Int) : Bool := (s_iwithin a0 0 200)
theorem f_iisSeam_top (a0 : Int) (r : List A) : ev f_iisSeam_X (lpc (cnOf f_iisSeam_LV) (f_iisSeam_L r)) f_iisSeam_c (K0 TT f_iisSeam_rv) (enter [.v (.int .i64 a0)]) = (some [.v (.bool (s_iwithin a0 0 200))]) := by kernel_rfl
noncomputable def l_iisSeam (r : Bool) : List A := [.v (.bool r)]
theorem s_iisSeam_ok (a0 : Int) : (some [.v (.bool (s_iwithin a0 0 200))]) = some (l_iisSeam (s_iisSeam a0)) := by
  unfold s_iisSeam
  exact rfl
noncomputable def c_iisSeam : List A → ACall
  | [.v (.int .i64 a0)] => ⟨Bool, some (s_iisSeam a0), fun r => .one (.v (.bool r))⟩
  | _ => ACall.fail
theorem f_iisSeam_sound : Sound Try.prog 25 c_iisSeam := by
  refine sound_good f_iisSeam_ctx f_iisSeam_LV 1 Try.func25 (c := f_iisSeam_c) (by kernel_rfl) (rv := f_iisSeam_rv) (by kernel_rfl) (by kernel_rfl) (by kernel_rfl) (by kernel_rfl) fun rs => ?_
  unfold c_iisSeam
  split
  · rename_i a0; intro v h; cases h; exact ⟨rfl, l_iisSeam (s_iisSeam a0), rfl, (f_iisSeam_top a0 _).trans (s_iisSeam_ok a0)⟩
  · intro v h; cases h

/-! ### function 45: loop.example/g01322/impl.isWidth$1 -/
noncomputable def f_iisWidth_1_c : Code := match Try.f45.body with | some c => c | none => .skip
noncomputable def f_iisWidth_1_X : Ctx := ⟨TT, phiOf [(27, c_iwithin)], noPsi, noXi⟩
def f_iisWidth_1_LV : List (Nat × Keep) := []
def f_iisWidth_1_rv : List ResultVar := [.tmp 2]
noncomputable def f_iisWidth_1_L (r : List A) : Nat → AS → Option (List A) := L f_iisWidth_1_X (cnOf f_iisWidth_1_LV) f_iisWidth_1_c (K0 TT f_iisWidth_1_rv) r
theorem f_iisWidth_1_ctx : CtxOK Try.prog f_iisWidth_1_X := ctx_of tab mix ⟨⟨Try.call27, f_iwithin_sound⟩, trivial⟩
noncomputable def s_iisWidth_1 (a0 : Int) : Bool := (!(s_iwithin a0 1 200))
theorem f_iisWidth_1_top (a0 : Int) (r : List A) : ev f_iisWidth_1_X (lpc (cnOf f_iisWidth_1_LV) (f_iisWidth_1_L r)) f_iisWidth_1_c (K0 TT f_iisWidth_1_rv) (enter [.v (.int .i64 a0)]) = (some [.v (.bool (!(s_iwithin a0 1 200)))]) := by kernel_rfl
noncomputable def l_iisWidth_1 (r : Bool) : List A := [.v (.bool r)]
theorem s_iisWidth_1_ok (a0 : Int) : (some [.v (.bool (!(s_iwithin a0 1 200)))]) = some (l_iisWidth_1 (s_iisWidth_1 a0)) := by
  unfold s_iisWidth_1
  exact rfl
noncomputable def c_iisWidth_1 : List A → ACall
  | [.v (.int .i64 a0)] => ⟨Bool, some (s_iisWidth_1 a0), fun r => .one (.v (.bool r))⟩
  | _ => ACall.fail
theorem f_iisWidth_1_sound : Sound Try.prog 45 c_iisWidth_1 := by
  refine sound_good f_iisWidth_1_ctx f_iisWidth_1_LV 1 Try.func45 (c := f_iisWidth_1_c) (by kernel_rfl) (rv := f_iisWidth_1_rv) (by kernel_rfl) (by kernel_rfl) (by kernel_rfl) (by kernel_rfl) fun rs => ?_
  unfold c_iisWidth_1
  split
  · rename_i a0; intro v h; cases h; exact ⟨rfl, l_iisWidth_1 (s_iisWidth_1 a0), rfl, (f_iisWidth_1_top a0 _).trans (s_iisWidth_1_ok a0)⟩
  · intro v h; cases h

/-! ### function 58: slices.IndexFunc[[]int64,int64] -/
noncomputable def f_gIndexFunc_int64_a_c : Code := match Try.f58.body with | some c => c | none => .skip
noncomputable def f_gIndexFunc_int64_a_X : Ctx := ⟨TT, phiOf [(45, c_iisWidth_1)], noPsi, noXi⟩
def f_gIndexFunc_int64_a_LV : List (Nat × Keep) := [(2, ([0, 1, 7, 8], [], []))]
def f_gIndexFunc_int64_a_rv : List ResultVar := [.tmp 4]
noncomputable def f_gIndexFunc_int64_a_L (r : List A) : Nat → AS → Option (List A) := L f_gIndexFunc_int64_a_X (cnOf f_gIndexFunc_int64_a_LV) f_gIndexFunc_int64_a_c (K0 TT f_gIndexFunc_int64_a_rv) r
theorem f_gIndexFunc_int64_a_ctx : CtxOK Try.prog f_gIndexFunc_int64_a_X := ctx_of tab mix ⟨⟨Try.call45, f_iisWidth_1_sound⟩, trivial⟩
noncomputable def f_gIndexFunc_int64_a_s2 (x0 : Int) (x1 : Int) (x2 : (List Int)) : AS := ⟨[(0, .a (.sl 0)), (1, .a (.clo 45 [])), (7, .a (.v (.int .i64 x0))), (8, .a (.v (.int .i64 x1)))], [(0, some ⟨false, .arr (.one (.i .i64)) x2⟩)], 1⟩
noncomputable def l_gIndexFunc_int64_a (r : Int) : List A := [.v (.int .i64 r)]
theorem f_gIndexFunc_int64_a_step2 (x0 : Int) (x1 : Int) (x2 : (List Int)) (r : List A) (h : (cond (decide (x1 < x0)) (cond (inB x1 (List.length x2)) (cond (s_iisWidth_1 (List.getD x2 (Int.toNat x1) 0)) (some [.v (.int .i64 x1)]) (f_gIndexFunc_int64_a_L r 2 (f_gIndexFunc_int64_a_s2 x0 (IntKind.wrap .i64 (x1 + 1)) x2))) none) (some [.v (.int .i64 (-1))])) = some r) : f_gIndexFunc_int64_a_L r 2 (f_gIndexFunc_int64_a_s2 x0 x1 x2) = some r :=
  step_of' h (by kernel_rfl)
noncomputable def f_gIndexFunc_int64_a_n2 (x0 : Int) (x1 : Int) (x2 : (List Int)) : Option ((Int × Int × (List Int)) ⊕ Int) := (cond (decide (x1 < x0)) (cond (inB x1 (List.length x2)) (cond (s_iisWidth_1 (List.getD x2 (Int.toNat x1) 0)) (some (Sum.inr x1)) (some (Sum.inl (x0, (IntKind.wrap .i64 (x1 + 1)), x2)))) none) (some (Sum.inr (-1))))
noncomputable def f_gIndexFunc_int64_a_run2 (x : (Int × Int × (List Int))) : Option Int := iter (fun x => f_gIndexFunc_int64_a_n2 x.1 x.2.1 x.2.2) FU x
noncomputable def f_gIndexFunc_int64_a_G2 (r : List A) (x : (Int × Int × (List Int))) : Prop := f_gIndexFunc_int64_a_L r 2 (f_gIndexFunc_int64_a_s2 x.1 x.2.1 x.2.2) = some r
noncomputable def f_gIndexFunc_int64_a_S2 (r : List A) : Int → Prop := fun v => r = l_gIndexFunc_int64_a v
theorem f_gIndexFunc_int64_a_go2 (r : List A) : ∀ x, sem (f_gIndexFunc_int64_a_S2 r) (f_gIndexFunc_int64_a_run2 x) → f_gIndexFunc_int64_a_G2 r x :=
  fun x => iter_sound (step := fun x => f_gIndexFunc_int64_a_n2 x.1 x.2.1 x.2.2) (fun x h => by
    unfold f_gIndexFunc_int64_a_n2 at h
    exact f_gIndexFunc_int64_a_step2 x.1 x.2.1 x.2.2 r ((sem_cond h (fun h => (sem_cond h (fun h => (sem_cond h (fun h => sem_got h fun q => some_eq q) (fun h => sem_got h fun q => q))) (fun h => sem_none h))) (fun h => sem_got h fun q => some_eq q)))) FU x
noncomputable def s_gIndexFunc_int64_a (a0 : (List Int)) : Option Int := (f_gIndexFunc_int64_a_run2 (((List.length a0 : Nat) : Int), 0, a0))
theorem f_gIndexFunc_int64_a_top (a0 : (List Int)) (r : List A) : ev f_gIndexFunc_int64_a_X (lpc (cnOf f_gIndexFunc_int64_a_LV) (f_gIndexFunc_int64_a_L r)) f_gIndexFunc_int64_a_c (K0 TT f_gIndexFunc_int64_a_rv) (enter [.lst (.one (.i .i64)) a0, .clo 45 []]) = (f_gIndexFunc_int64_a_L r 2 (f_gIndexFunc_int64_a_s2 ((List.length a0 : Nat) : Int) 0 a0)) := by kernel_rfl
theorem s_gIndexFunc_int64_a_ok (a0 : (List Int)) (v : Int) (h : s_gIndexFunc_int64_a a0 = some v) : (f_gIndexFunc_int64_a_L (l_gIndexFunc_int64_a v) 2 (f_gIndexFunc_int64_a_s2 ((List.length a0 : Nat) : Int) 0 a0)) = some (l_gIndexFunc_int64_a v) := by
  unfold s_gIndexFunc_int64_a at h
  have go : ∀ r, sem (fun v => r = l_gIndexFunc_int64_a v) ((f_gIndexFunc_int64_a_run2 (((List.length a0 : Nat) : Int), 0, a0))) → (f_gIndexFunc_int64_a_L r 2 (f_gIndexFunc_int64_a_s2 ((List.length a0 : Nat) : Int) 0 a0)) = some r := fun r h => f_gIndexFunc_int64_a_go2 r _ h
  exact go (l_gIndexFunc_int64_a v) ⟨v, h, rfl⟩
noncomputable def c_gIndexFunc_int64_a : List A → ACall
  | [.lst (.one (.i .i64)) a0, .clo 45 []] => ⟨Int, s_gIndexFunc_int64_a a0, fun r => .one (.v (.int .i64 r))⟩
  | _ => ACall.fail
theorem f_gIndexFunc_int64_a_sound : Sound Try.prog 58 c_gIndexFunc_int64_a := by
  refine sound_good f_gIndexFunc_int64_a_ctx f_gIndexFunc_int64_a_LV 2 Try.func58 (c := f_gIndexFunc_int64_a_c) (by kernel_rfl) (rv := f_gIndexFunc_int64_a_rv) (by kernel_rfl) (by kernel_rfl) (by kernel_rfl) (by kernel_rfl) fun rs => ?_
  unfold c_gIndexFunc_int64_a
  split
  · rename_i a0; intro v h; exact ⟨rfl, l_gIndexFunc_int64_a v, rfl, (f_gIndexFunc_int64_a_top a0 _).trans (s_gIndexFunc_int64_a_ok a0 v h)⟩
  · intro v h; cases h
def m_gIndexFunc_int64_a : List A → Bool
  | [_, .clo 45 _] => true
  | _ => false

/-! ### function 44: slices.ContainsFunc[[]int64,int64] -/
noncomputable def f_gContainsFunc_int64_a_c : Code := match Try.f44.body with | some c => c | none => .skip
noncomputable def f_gContainsFunc_int64_a_X : Ctx := ⟨TT, phiOf [(58, c_gIndexFunc_int64_a)], noPsi, noXi⟩
def f_gContainsFunc_int64_a_LV : List (Nat × Keep) := []
def f_gContainsFunc_int64_a_rv : List ResultVar := [.tmp 4]
noncomputable def f_gContainsFunc_int64_a_L (r : List A) : Nat → AS → Option (List A) := L f_gContainsFunc_int64_a_X (cnOf f_gContainsFunc_int64_a_LV) f_gContainsFunc_int64_a_c (K0 TT f_gContainsFunc_int64_a_rv) r
theorem f_gContainsFunc_int64_a_ctx : CtxOK Try.prog f_gContainsFunc_int64_a_X := ctx_of tab mix ⟨⟨Try.call58, f_gIndexFunc_int64_a_sound⟩, trivial⟩
noncomputable def s_gContainsFunc_int64_a (a0 : (List Int)) : Option Bool := (Option.bind (s_gIndexFunc_int64_a a0) fun r1 => (some (decide (r1 ≥ 0))))
theorem f_gContainsFunc_int64_a_top (a0 : (List Int)) (r : List A) : ev f_gContainsFunc_int64_a_X (lpc (cnOf f_gContainsFunc_int64_a_LV) (f_gContainsFunc_int64_a_L r)) f_gContainsFunc_int64_a_c (K0 TT f_gContainsFunc_int64_a_rv) (enter [.lst (.one (.i .i64)) a0, .clo 45 []]) = (Option.bind (s_gIndexFunc_int64_a a0) fun r1 => (some [.v (.bool (decide (r1 ≥ 0)))])) := by kernel_rfl
noncomputable def l_gContainsFunc_int64_a (r : Bool) : List A := [.v (.bool r)]
theorem s_gContainsFunc_int64_a_ok (a0 : (List Int)) (v : Bool) (h : s_gContainsFunc_int64_a a0 = some v) : (Option.bind (s_gIndexFunc_int64_a a0) fun r1 => (some [.v (.bool (decide (r1 ≥ 0)))])) = some (l_gContainsFunc_int64_a v) := by
  have e : (Option.bind (s_gIndexFunc_int64_a a0) fun r1 => (some [.v (.bool (decide (r1 ≥ 0)))])) = Option.map l_gContainsFunc_int64_a (s_gContainsFunc_int64_a a0) := by
    unfold s_gContainsFunc_int64_a
    exact (bind_app fun _ => rfl)
  rw [e, h]; rfl
noncomputable def c_gContainsFunc_int64_a : List A → ACall
  | [.lst (.one (.i .i64)) a0, .clo 45 []] => ⟨Bool, s_gContainsFunc_int64_a a0, fun r => .one (.v (.bool r))⟩
  | _ => ACall.fail
theorem f_gContainsFunc_int64_a_sound : Sound Try.prog 44 c_gContainsFunc_int64_a := by
  refine sound_good f_gContainsFunc_int64_a_ctx f_gContainsFunc_int64_a_LV 2 Try.func44 (c := f_gContainsFunc_int64_a_c) (by kernel_rfl) (rv := f_gContainsFunc_int64_a_rv) (by kernel_rfl) (by kernel_rfl) (by kernel_rfl) (by kernel_rfl) fun rs => ?_
  unfold c_gContainsFunc_int64_a
  split
  · rename_i a0; intro v h; exact ⟨rfl, l_gContainsFunc_int64_a v, rfl, (f_gContainsFunc_int64_a_top a0 _).trans (s_gContainsFunc_int64_a_ok a0 v h)⟩
  · intro v h; cases h
def m_gContainsFunc_int64_a : List A → Bool
  | [_, .clo 45 _] => true
  | _ => false

/-! ### function 26: loop.example/g01322/impl.isWidth -/
noncomputable def f_iisWidth_c : Code := match Try.f26.body with | some c => c | none => .skip
noncomputable def f_iisWidth_X : Ctx := ⟨TT, phiOf [(44, c_gContainsFunc_int64_a)], noPsi, noXi⟩
def f_iisWidth_LV : List (Nat × Keep) := []
def f_iisWidth_rv : List ResultVar := [.tmp 2]
noncomputable def f_iisWidth_L (r : List A) : Nat → AS → Option (List A) := L f_iisWidth_X (cnOf f_iisWidth_LV) f_iisWidth_c (K0 TT f_iisWidth_rv) r
theorem f_iisWidth_ctx : CtxOK Try.prog f_iisWidth_X := ctx_of tab mix ⟨⟨Try.call44, f_gContainsFunc_int64_a_sound⟩, trivial⟩
noncomputable def s_iisWidth (a0 : (List Int)) : Option Bool := (Option.bind (s_gContainsFunc_int64_a a0) fun r1 => (some (!r1)))
theorem f_iisWidth_top (a0 : (List Int)) (r : List A) : ev f_iisWidth_X (lpc (cnOf f_iisWidth_LV) (f_iisWidth_L r)) f_iisWidth_c (K0 TT f_iisWidth_rv) (enter [.lst (.one (.i .i64)) a0]) = (Option.bind (s_gContainsFunc_int64_a a0) fun r1 => (some [.v (.bool (!r1))])) := by kernel_rfl
noncomputable def l_iisWidth (r : Bool) : List A := [.v (.bool r)]
theorem s_iisWidth_ok (a0 : (List Int)) (v : Bool) (h : s_iisWidth a0 = some v) : (Option.bind (s_gContainsFunc_int64_a a0) fun r1 => (some [.v (.bool (!r1))])) = some (l_iisWidth v) := by
  have e : (Option.bind (s_gContainsFunc_int64_a a0) fun r1 => (some [.v (.bool (!r1))])) = Option.map l_iisWidth (s_iisWidth a0) := by
    unfold s_iisWidth
    exact (bind_app fun _ => rfl)
  rw [e, h]; rfl
noncomputable def c_iisWidth : List A → ACall
  | [.lst (.one (.i .i64)) a0] => ⟨Bool, s_iisWidth a0, fun r => .one (.v (.bool r))⟩
  | _ => ACall.fail
theorem f_iisWidth_sound : Sound Try.prog 26 c_iisWidth := by
  refine sound_good f_iisWidth_ctx f_iisWidth_LV 1 Try.func26 (c := f_iisWidth_c) (by kernel_rfl) (rv := f_iisWidth_rv) (by kernel_rfl) (by kernel_rfl) (by kernel_rfl) (by kernel_rfl) fun rs => ?_
  unfold c_iisWidth
  split
  · rename_i a0; intro v h; exact ⟨rfl, l_iisWidth v, rfl, (f_iisWidth_top a0 _).trans (s_iisWidth_ok a0 v h)⟩
  · intro v h; cases h

/-! ### function 28: loop.example/g01322/impl.brick -/
noncomputable def f_ibrick_c : Code := match Try.f28.body with | some c => c | none => .skip
noncomputable def f_ibrick_X : Ctx := ⟨TT, phiOf [(26, c_iisWidth)], noPsi, noXi⟩
def f_ibrick_LV : List (Nat × Keep) := [(3, ([1, 2, 10, 11], [], [])), (13, ([12, 65, 66, 67], [], []))]
def f_ibrick_rv : List ResultVar := [.tmp 8, .tmp 9]
noncomputable def f_ibrick_L (r : List A) : Nat → AS → Option (List A) := L f_ibrick_X (cnOf f_ibrick_LV) f_ibrick_c (K0 TT f_ibrick_rv) r
theorem f_ibrick_ctx : CtxOK Try.prog f_ibrick_X := ctx_of tab mix ⟨⟨Try.call26, f_iisWidth_sound⟩, trivial⟩
noncomputable def f_ibrick_s3 (x0 : Int) (x1 : Int) (x2 : Int) (x3 : (List Int)) : AS := ⟨[(1, .a (.v (.int .i64 x0))), (2, .a (.v (.int .i64 x1))), (10, .a (.sl 0)), (11, .a (.v (.int .i64 x2)))], [(0, some ⟨true, .arr (.one (.i .i64)) x3⟩)], 1⟩
noncomputable def f_ibrick_s13 (x0 : Int) (x1 : Int) (x2 : (List Int)) (x3 : (List Int)) : AS := ⟨[(12, .a (.sl 0)), (65, .a (.sl 1)), (66, .a (.v (.int .i64 x0))), (67, .a (.v (.int .i64 x1)))], [(0, some ⟨true, .arr (.one (.i .i16)) x2⟩), (1, some ⟨true, .arr (.one (.i .i64)) x3⟩)], 2⟩
abbrev A_ibrick := ((List Int) × Bool)
noncomputable def l_ibrick (r : ((List Int) × Bool)) : List A := [.lst (.one (.i .i16)) r.1, .v (.bool r.2)]
abbrev Z_ibrick_3 := (Int × Int × Int × (List Int))
abbrev Y_ibrick_3 := A_ibrick
abbrev Z_ibrick_13 := (Int × Int × (List Int) × (List Int))
abbrev Y_ibrick_13 := A_ibrick
section
variable {R R' : Type} {S : R → Prop} {r : R'} (E : A_ibrick → Option R) (E' : A_ibrick → Option R') (G3 : Z_ibrick_3 → Option R) (G3' : Z_ibrick_3 → Option R') (G13 : Z_ibrick_13 → Option R) (G13' : Z_ibrick_13 → Option R')
noncomputable def t_ibrick_3 (x0 x1 x2 : Int) (x3 : (List Int)) : Option R := (cond (decide (x2 ≥ (IntKind.wrap .i64 (x0 + x1)))) (cond (fits ((List.length (x3 : List Int) + List.length ([x1] : List Int)) * 8)) (G3 (x0, x1, (IntKind.wrap .i64 (x2 - (IntKind.wrap .i64 (x0 + x1)))), (x3 ++ [x1]))) none) (cond (decide (x2 > x0)) (cond (fits ((List.length (x3 : List Int) + List.length ([(IntKind.wrap .i64 (x2 - x0))] : List Int)) * 8)) (cond (decide (((List.length (x3 ++ [(IntKind.wrap .i64 (x2 - x0))]) : Nat) : Int) > 60)) (E ([], false)) (Option.bind (s_iisWidth (x3 ++ [(IntKind.wrap .i64 (x2 - x0))])) fun r1 => (cond (!r1) (E ([], false)) (G13 (((List.length (x3 ++ [(IntKind.wrap .i64 (x2 - x0))]) : Nat) : Int), 0, [], (x3 ++ [(IntKind.wrap .i64 (x2 - x0))])))))) none) (cond (inB (IntKind.wrap .i64 (((List.length x3 : Nat) : Int) - 1)) (List.length x3)) (cond (inB (IntKind.wrap .i64 (((List.length x3 : Nat) : Int) - 1)) (List.length x3)) (cond (decide (((List.length (List.set x3 (Int.toNat (IntKind.wrap .i64 (((List.length x3 : Nat) : Int) - 1))) (IntKind.wrap .i64 ((List.getD x3 (Int.toNat (IntKind.wrap .i64 (((List.length x3 : Nat) : Int) - 1))) 0) + x2))) : Nat) : Int) > 60)) (E ([], false)) (Option.bind (s_iisWidth (List.set x3 (Int.toNat (IntKind.wrap .i64 (((List.length x3 : Nat) : Int) - 1))) (IntKind.wrap .i64 ((List.getD x3 (Int.toNat (IntKind.wrap .i64 (((List.length x3 : Nat) : Int) - 1))) 0) + x2)))) fun r2 => (cond (!r2) (E ([], false)) (G13 (((List.length (List.set x3 (Int.toNat (IntKind.wrap .i64 (((List.length x3 : Nat) : Int) - 1))) (IntKind.wrap .i64 ((List.getD x3 (Int.toNat (IntKind.wrap .i64 (((List.length x3 : Nat) : Int) - 1))) 0) + x2))) : Nat) : Int), 0, [], (List.set x3 (Int.toNat (IntKind.wrap .i64 (((List.length x3 : Nat) : Int) - 1))) (IntKind.wrap .i64 ((List.getD x3 (Int.toNat (IntKind.wrap .i64 (((List.length x3 : Nat) : Int) - 1))) 0) + x2)))))))) none) none)))
theorem t_ibrick_3_sem (x0 x1 x2 : Int) (x3 : (List Int)) (h : sem S (t_ibrick_3 E G3 G13 x0 x1 x2 x3)) (hE : Leads S r E E') (h3 : Leads S r G3 G3') (h13 : Leads S r G13 G13') : t_ibrick_3 E' G3' G13' x0 x1 x2 x3 = some r := by
  revert h
  unfold t_ibrick_3
  repeat' first | refine sem_condK ?_ ?_ | refine sem_bindK fun _ => ?_ | exact sem_noneK | exact hE _ | exact h3 _ | exact h13 _ | refine sem_bind2K (fun _ => ?_) (fun _ => ?_)
noncomputable def t_ibrick_13 (x0 x1 : Int) (x2 x3 : (List Int)) : Option R := (cond (decide (x1 < x0)) (cond (inB x1 (List.length x3)) (cond (fits ((List.length (x2 : List Int) + List.length ([(IntKind.wrap .i16 (List.getD x3 (Int.toNat x1) 0))] : List Int)) * 2)) (G13 (x0, (IntKind.wrap .i64 (x1 + 1)), (x2 ++ [(IntKind.wrap .i16 (List.getD x3 (Int.toNat x1) 0))]), x3)) none) none) (E (x2, true)))
theorem t_ibrick_13_sem (x0 x1 : Int) (x2 x3 : (List Int)) (h : sem S (t_ibrick_13 E G13 x0 x1 x2 x3)) (hE : Leads S r E E') (h13 : Leads S r G13 G13') : t_ibrick_13 E' G13' x0 x1 x2 x3 = some r := by
  revert h
  unfold t_ibrick_13
  repeat' first | refine sem_condK ?_ ?_ | refine sem_bindK fun _ => ?_ | exact sem_noneK | exact hE _ | exact h13 _ | refine sem_bind2K (fun _ => ?_) (fun _ => ?_)
noncomputable def t_ibrick (a0 a1 a2 a3 : Int) : Option R := (cond (inB 0 (List.length [(min a3 a0)])) (G3 (a1, a2, (IntKind.wrap .i64 (a0 - (List.getD [(min a3 a0)] 0 0))), [(min a3 a0)])) none)
theorem t_ibrick_sem (a0 a1 a2 a3 : Int) (h : sem S (t_ibrick G3 a0 a1 a2 a3)) (h3 : Leads S r G3 G3') : t_ibrick G3' a0 a1 a2 a3 = some r := by
  revert h
  unfold t_ibrick
  repeat' first | refine sem_condK ?_ ?_ | refine sem_bindK fun _ => ?_ | exact sem_noneK | exact h3 _ | refine sem_bind2K (fun _ => ?_) (fun _ => ?_)
end
noncomputable def f_ibrick_K3 (r : List A) (x : Z_ibrick_3) : Option (List A) := f_ibrick_L r 3 (f_ibrick_s3 x.1 x.2.1 x.2.2.1 x.2.2.2)
noncomputable def f_ibrick_K13 (r : List A) (x : Z_ibrick_13) : Option (List A) := f_ibrick_L r 13 (f_ibrick_s13 x.1 x.2.1 x.2.2.1 x.2.2.2)
theorem f_ibrick_step13 (x0 x1 : Int) (x2 x3 : (List Int)) (r : List A) (h : t_ibrick_13 (fun v => some (l_ibrick v)) (f_ibrick_K13 r) x0 x1 x2 x3 = some r) : f_ibrick_L r 13 (f_ibrick_s13 x0 x1 x2 x3) = some r :=
  step_of' h (by kernel_rfl)
noncomputable def f_ibrick_n13 (x0 x1 : Int) (x2 x3 : (List Int)) : Option (Z_ibrick_13 ⊕ Y_ibrick_13) := t_ibrick_13 (fun v => some (Sum.inr v)) (fun x => some (Sum.inl x)) x0 x1 x2 x3
noncomputable def f_ibrick_run13 (x : Z_ibrick_13) : Option Y_ibrick_13 := iter (fun x => f_ibrick_n13 x.1 x.2.1 x.2.2.1 x.2.2.2) FU x
noncomputable def f_ibrick_G13 (r : List A) (x : Z_ibrick_13) : Prop := f_ibrick_K13 r x = some r
theorem f_ibrick_step3 (x0 x1 x2 : Int) (x3 : (List Int)) (r : List A) (h : t_ibrick_3 (fun v => some (l_ibrick v)) (f_ibrick_K3 r) (f_ibrick_K13 r) x0 x1 x2 x3 = some r) : f_ibrick_L r 3 (f_ibrick_s3 x0 x1 x2 x3) = some r :=
  step_of' h (by kernel_rfl)
noncomputable def f_ibrick_n3 (x0 x1 x2 : Int) (x3 : (List Int)) : Option (Z_ibrick_3 ⊕ Y_ibrick_3) := t_ibrick_3 (fun v => some (Sum.inr v)) (fun x => some (Sum.inl x)) (fun x => Option.map (fun x => (Sum.inr x)) (f_ibrick_run13 x)) x0 x1 x2 x3
noncomputable def f_ibrick_run3 (x : Z_ibrick_3) : Option Y_ibrick_3 := iter (fun x => f_ibrick_n3 x.1 x.2.1 x.2.2.1 x.2.2.2) FU x
noncomputable def f_ibrick_G3 (r : List A) (x : Z_ibrick_3) : Prop := f_ibrick_K3 r x = some r
noncomputable def f_ibrick_S13 (r : List A) : Y_ibrick_13 → Prop := fun v => r = l_ibrick v
noncomputable def f_ibrick_S3 (r : List A) : Y_ibrick_3 → Prop := fun v => r = l_ibrick v
theorem f_ibrick_go13 (r : List A) : ∀ x, sem (f_ibrick_S13 r) (f_ibrick_run13 x) → f_ibrick_G13 r x :=
  fun x => iter_sound (G := f_ibrick_G13 r) (E := f_ibrick_S13 r) (step := fun x => f_ibrick_n13 x.1 x.2.1 x.2.2.1 x.2.2.2) (fun x h => f_ibrick_step13 x.1 x.2.1 x.2.2.1 x.2.2.2 r (t_ibrick_13_sem _ _ _ _ x.1 x.2.1 x.2.2.1 x.2.2.2 h (fun _ h => sem_got h fun q => some_eq q) (fun _ h => sem_got h fun q => q))) FU x
theorem f_ibrick_go3 (r : List A) : ∀ x, sem (f_ibrick_S3 r) (f_ibrick_run3 x) → f_ibrick_G3 r x :=
  fun x => iter_sound (G := f_ibrick_G3 r) (E := f_ibrick_S3 r) (step := fun x => f_ibrick_n3 x.1 x.2.1 x.2.2.1 x.2.2.2) (fun x h => f_ibrick_step3 x.1 x.2.1 x.2.2.1 x.2.2.2 r (t_ibrick_3_sem _ _ _ _ _ _ x.1 x.2.1 x.2.2.1 x.2.2.2 h (fun _ h => sem_got h fun q => some_eq q) (fun _ h => sem_got h fun q => q) (fun x h => f_ibrick_go13 r x (sem_mapk h fun _ q => q)))) FU x
noncomputable def s_ibrick (a0 : Int) (a1 : Int) (a2 : Int) (a3 : Int) : Option ((List Int) × Bool) := t_ibrick f_ibrick_run3 a0 a1 a2 a3
theorem f_ibrick_top (a0 : Int) (a1 : Int) (a2 : Int) (a3 : Int) (r : List A) : ev f_ibrick_X (lpc (cnOf f_ibrick_LV) (f_ibrick_L r)) f_ibrick_c (K0 TT f_ibrick_rv) (enter [.v (.int .i64 a0), .v (.int .i64 a1), .v (.int .i64 a2), .v (.int .i64 a3)]) = t_ibrick (f_ibrick_K3 r) a0 a1 a2 a3 := by kernel_rfl
theorem s_ibrick_ok (a0 : Int) (a1 : Int) (a2 : Int) (a3 : Int) (v : ((List Int) × Bool)) (h : s_ibrick a0 a1 a2 a3 = some v) : t_ibrick (f_ibrick_K3 (l_ibrick v)) a0 a1 a2 a3 = some (l_ibrick v) :=
  t_ibrick_sem _ _ a0 a1 a2 a3 (show sem (fun w => l_ibrick v = l_ibrick w) (s_ibrick a0 a1 a2 a3) from ⟨v, h, rfl⟩) (f_ibrick_go3 (l_ibrick v))
noncomputable def c_ibrick : List A → ACall
  | [.v (.int .i64 a0), .v (.int .i64 a1), .v (.int .i64 a2), .v (.int .i64 a3)] => ⟨((List Int) × Bool), s_ibrick a0 a1 a2 a3, fun r => .tup [.lst (.one (.i .i16)) r.1, .v (.bool r.2)]⟩
  | _ => ACall.fail
theorem f_ibrick_sound : Sound Try.prog 28 c_ibrick := by
  refine sound_good f_ibrick_ctx f_ibrick_LV 4 Try.func28 (c := f_ibrick_c) (by kernel_rfl) (rv := f_ibrick_rv) (by kernel_rfl) (by kernel_rfl) (by kernel_rfl) (by kernel_rfl) fun rs => ?_
  unfold c_ibrick
  split
  · rename_i a0 a1 a2 a3; intro v h; exact ⟨rfl, l_ibrick v, rfl, (f_ibrick_top a0 a1 a2 a3 _).trans (s_ibrick_ok a0 a1 a2 a3 v h)⟩
  · intro v h; cases h

/-! ### function 46: (loop.example/g01322/impl.Row).joints -/
noncomputable def f_iRow_joints_c : Code := match Try.f46.body with | some c => c | none => .skip
noncomputable def f_iRow_joints_X : Ctx := ⟨TT, phiOf [], noPsi, noXi⟩
def f_iRow_joints_LV : List (Nat × Keep) := [(3, ([1, 5, 6, 14, 15, 16], [], []))]
def f_iRow_joints_rv : List ResultVar := [.tmp 4]
noncomputable def f_iRow_joints_L (r : List A) : Nat → AS → Option (List A) := L f_iRow_joints_X (cnOf f_iRow_joints_LV) f_iRow_joints_c (K0 TT f_iRow_joints_rv) r
theorem f_iRow_joints_ctx : CtxOK Try.prog f_iRow_joints_X := ctx_of tab mix trivial
noncomputable def f_iRow_joints_s3 (x0 : Int) (x1 : Int) (x2 : Int) (x3 : Int) (x4 : (List (Int × Int))) (x5 : (List Int)) : AS := ⟨[(1, .a (.v (.int .i64 x0))), (5, .a (.sl 0)), (6, .a (.v (.int .i64 x1))), (14, .a (.sl 1)), (15, .a (.v (.int .i64 x2))), (16, .a (.v (.int .i64 x3)))], [(0, some ⟨true, .arr (.st [(.i .i16), (.i .i16)]) x4⟩), (1, some ⟨false, .arr (.one (.i .i16)) x5⟩)], 2⟩
abbrev A_iRow_joints := (List (Int × Int))
noncomputable def l_iRow_joints (r : (List (Int × Int))) : List A := [.lst (.st [(.i .i16), (.i .i16)]) r]
abbrev Z_iRow_joints_3 := (Int × Int × Int × Int × (List (Int × Int)) × (List Int))
abbrev Y_iRow_joints_3 := A_iRow_joints
section
variable {R R' : Type} {S : R → Prop} {r : R'} (E : A_iRow_joints → Option R) (E' : A_iRow_joints → Option R') (G3 : Z_iRow_joints_3 → Option R) (G3' : Z_iRow_joints_3 → Option R')
noncomputable def t_iRow_joints_3 (x0 x1 x2 x3 : Int) (x4 : (List (Int × Int))) (x5 : (List Int)) : Option R := (cond (decide (x3 < x2)) (cond (inB x3 (List.length x5)) (cond (fits ((List.length (x4 : List (Int × Int)) + List.length ([((IntKind.wrap .i16 (IntKind.wrap .i64 (x1 + (IntKind.wrap .i64 (List.getD x5 (Int.toNat x3) 0))))), (IntKind.wrap .i16 (IntKind.wrap .i64 ((IntKind.wrap .i64 (x1 + (IntKind.wrap .i64 (List.getD x5 (Int.toNat x3) 0)))) + x0))))] : List (Int × Int))) * 4)) (G3 (x0, (IntKind.wrap .i64 ((IntKind.wrap .i64 (x1 + (IntKind.wrap .i64 (List.getD x5 (Int.toNat x3) 0)))) + x0)), x2, (IntKind.wrap .i64 (x3 + 1)), (x4 ++ [((IntKind.wrap .i16 (IntKind.wrap .i64 (x1 + (IntKind.wrap .i64 (List.getD x5 (Int.toNat x3) 0))))), (IntKind.wrap .i16 (IntKind.wrap .i64 ((IntKind.wrap .i64 (x1 + (IntKind.wrap .i64 (List.getD x5 (Int.toNat x3) 0)))) + x0))))]), x5)) none) none) (E x4))
theorem t_iRow_joints_3_sem (x0 x1 x2 x3 : Int) (x4 : (List (Int × Int))) (x5 : (List Int)) (h : sem S (t_iRow_joints_3 E G3 x0 x1 x2 x3 x4 x5)) (hE : Leads S r E E') (h3 : Leads S r G3 G3') : t_iRow_joints_3 E' G3' x0 x1 x2 x3 x4 x5 = some r := by
  revert h
  unfold t_iRow_joints_3
  repeat' first | refine sem_condK ?_ ?_ | refine sem_bindK fun _ => ?_ | exact sem_noneK | exact hE _ | exact h3 _ | refine sem_bind2K (fun _ => ?_) (fun _ => ?_)
noncomputable def t_iRow_joints (a0 : (List Int)) (a1 : Int) : Option R := (cond (inS 0 (IntKind.wrap .i64 (((List.length a0 : Nat) : Int) - 1)) (List.length a0)) (G3 (a1, 0, ((List.length (List.drop 0 (List.take (Int.toNat (IntKind.wrap .i64 (((List.length a0 : Nat) : Int) - 1))) a0)) : Nat) : Int), 0, [], (List.drop 0 (List.take (Int.toNat (IntKind.wrap .i64 (((List.length a0 : Nat) : Int) - 1))) a0)))) none)
theorem t_iRow_joints_sem (a0 : (List Int)) (a1 : Int) (h : sem S (t_iRow_joints G3 a0 a1)) (h3 : Leads S r G3 G3') : t_iRow_joints G3' a0 a1 = some r := by
  revert h
  unfold t_iRow_joints
  repeat' first | refine sem_condK ?_ ?_ | refine sem_bindK fun _ => ?_ | exact sem_noneK | exact h3 _ | refine sem_bind2K (fun _ => ?_) (fun _ => ?_)
end
noncomputable def f_iRow_joints_K3 (r : List A) (x : Z_iRow_joints_3) : Option (List A) := f_iRow_joints_L r 3 (f_iRow_joints_s3 x.1 x.2.1 x.2.2.1 x.2.2.2.1 x.2.2.2.2.1 x.2.2.2.2.2)
theorem f_iRow_joints_step3 (x0 x1 x2 x3 : Int) (x4 : (List (Int × Int))) (x5 : (List Int)) (r : List A) (h : t_iRow_joints_3 (fun v => some (l_iRow_joints v)) (f_iRow_joints_K3 r) x0 x1 x2 x3 x4 x5 = some r) : f_iRow_joints_L r 3 (f_iRow_joints_s3 x0 x1 x2 x3 x4 x5) = some r :=
  step_of' h (by kernel_rfl)
noncomputable def f_iRow_joints_n3 (x0 x1 x2 x3 : Int) (x4 : (List (Int × Int))) (x5 : (List Int)) : Option (Z_iRow_joints_3 ⊕ Y_iRow_joints_3) := t_iRow_joints_3 (fun v => some (Sum.inr v)) (fun x => some (Sum.inl x)) x0 x1 x2 x3 x4 x5
noncomputable def f_iRow_joints_run3 (x : Z_iRow_joints_3) : Option Y_iRow_joints_3 := iter (fun x => f_iRow_joints_n3 x.1 x.2.1 x.2.2.1 x.2.2.2.1 x.2.2.2.2.1 x.2.2.2.2.2) FU x
noncomputable def f_iRow_joints_G3 (r : List A) (x : Z_iRow_joints_3) : Prop := f_iRow_joints_K3 r x = some r
noncomputable def f_iRow_joints_S3 (r : List A) : Y_iRow_joints_3 → Prop := fun v => r = l_iRow_joints v
theorem f_iRow_joints_go3 (r : List A) : ∀ x, sem (f_iRow_joints_S3 r) (f_iRow_joints_run3 x) → f_iRow_joints_G3 r x :=
  fun x => iter_sound (G := f_iRow_joints_G3 r) (E := f_iRow_joints_S3 r) (step := fun x => f_iRow_joints_n3 x.1 x.2.1 x.2.2.1 x.2.2.2.1 x.2.2.2.2.1 x.2.2.2.2.2) (fun x h => f_iRow_joints_step3 x.1 x.2.1 x.2.2.1 x.2.2.2.1 x.2.2.2.2.1 x.2.2.2.2.2 r (t_iRow_joints_3_sem _ _ _ _ x.1 x.2.1 x.2.2.1 x.2.2.2.1 x.2.2.2.2.1 x.2.2.2.2.2 h (fun _ h => sem_got h fun q => some_eq q) (fun _ h => sem_got h fun q => q))) FU x
noncomputable def s_iRow_joints (a0 : (List Int)) (a1 : Int) : Option (List (Int × Int)) := t_iRow_joints f_iRow_joints_run3 a0 a1
theorem f_iRow_joints_top (a0 : (List Int)) (a1 : Int) (r : List A) : ev f_iRow_joints_X (lpc (cnOf f_iRow_joints_LV) (f_iRow_joints_L r)) f_iRow_joints_c (K0 TT f_iRow_joints_rv) (enter [.lst (.one (.i .i16)) a0, .v (.int .i64 a1)]) = t_iRow_joints (f_iRow_joints_K3 r) a0 a1 := by kernel_rfl
theorem s_iRow_joints_ok (a0 : (List Int)) (a1 : Int) (v : (List (Int × Int))) (h : s_iRow_joints a0 a1 = some v) : t_iRow_joints (f_iRow_joints_K3 (l_iRow_joints v)) a0 a1 = some (l_iRow_joints v) :=
  t_iRow_joints_sem _ _ a0 a1 (show sem (fun w => l_iRow_joints v = l_iRow_joints w) (s_iRow_joints a0 a1) from ⟨v, h, rfl⟩) (f_iRow_joints_go3 (l_iRow_joints v))
noncomputable def c_iRow_joints : List A → ACall
  | [.lst (.one (.i .i16)) a0, .v (.int .i64 a1)] => ⟨(List (Int × Int)), s_iRow_joints a0 a1, fun r => .one (.lst (.st [(.i .i16), (.i .i16)]) r)⟩
  | _ => ACall.fail
theorem f_iRow_joints_sound : Sound Try.prog 46 c_iRow_joints := by
  refine sound_good f_iRow_joints_ctx f_iRow_joints_LV 2 Try.func46 (c := f_iRow_joints_c) (by kernel_rfl) (rv := f_iRow_joints_rv) (by kernel_rfl) (by kernel_rfl) (by kernel_rfl) (by kernel_rfl) fun rs => ?_
  unfold c_iRow_joints
  split
  · rename_i a0 a1; intro v h; exact ⟨rfl, l_iRow_joints v, rfl, (f_iRow_joints_top a0 a1 _).trans (s_iRow_joints_ok a0 a1 v h)⟩
  · intro v h; cases h

/-! ### function 47: loop.example/g01322/impl.apartOf -/
noncomputable def f_iapartOf_c : Code := match Try.f47.body with | some c => c | none => .skip
noncomputable def f_iapartOf_X : Ctx := ⟨TT, phiOf [], noPsi, noXi⟩
def f_iapartOf_LV : List (Nat × Keep) := []
def f_iapartOf_rv : List ResultVar := [.tmp 4]
noncomputable def f_iapartOf_L (r : List A) : Nat → AS → Option (List A) := L f_iapartOf_X (cnOf f_iapartOf_LV) f_iapartOf_c (K0 TT f_iapartOf_rv) r
theorem f_iapartOf_ctx : CtxOK Try.prog f_iapartOf_X := ctx_of tab mix trivial
noncomputable def s_iapartOf (a0 : Int) (a1 : Int) (a2 : Int) (a3 : Int) : Int := (IntKind.wrap .i64 ((IntKind.wrap .i64 (max a0 a2)) - (IntKind.wrap .i64 (min a1 a3))))
theorem f_iapartOf_top (a0 : Int) (a1 : Int) (a2 : Int) (a3 : Int) (r : List A) : ev f_iapartOf_X (lpc (cnOf f_iapartOf_LV) (f_iapartOf_L r)) f_iapartOf_c (K0 TT f_iapartOf_rv) (enter [.rc [.v (.int .i16 a0), .v (.int .i16 a1)], .rc [.v (.int .i16 a2), .v (.int .i16 a3)]]) = (some [.v (.int .i64 (IntKind.wrap .i64 ((IntKind.wrap .i64 (max a0 a2)) - (IntKind.wrap .i64 (min a1 a3)))))]) := by kernel_rfl
noncomputable def l_iapartOf (r : Int) : List A := [.v (.int .i64 r)]
theorem s_iapartOf_ok (a0 : Int) (a1 : Int) (a2 : Int) (a3 : Int) : (some [.v (.int .i64 (IntKind.wrap .i64 ((IntKind.wrap .i64 (max a0 a2)) - (IntKind.wrap .i64 (min a1 a3)))))]) = some (l_iapartOf (s_iapartOf a0 a1 a2 a3)) := by
  unfold s_iapartOf
  exact rfl
noncomputable def c_iapartOf : List A → ACall
  | [.rc [.v (.int .i16 a0), .v (.int .i16 a1)], .rc [.v (.int .i16 a2), .v (.int .i16 a3)]] => ⟨Int, some (s_iapartOf a0 a1 a2 a3), fun r => .one (.v (.int .i64 r))⟩
  | _ => ACall.fail
theorem f_iapartOf_sound : Sound Try.prog 47 c_iapartOf := by
  refine sound_good f_iapartOf_ctx f_iapartOf_LV 2 Try.func47 (c := f_iapartOf_c) (by kernel_rfl) (rv := f_iapartOf_rv) (by kernel_rfl) (by kernel_rfl) (by kernel_rfl) (by kernel_rfl) fun rs => ?_
  unfold c_iapartOf
  split
  · rename_i a0 a1 a2 a3; intro v h; cases h; exact ⟨rfl, l_iapartOf (s_iapartOf a0 a1 a2 a3), rfl, (f_iapartOf_top a0 a1 a2 a3 _).trans (s_iapartOf_ok a0 a1 a2 a3)⟩
  · intro v h; cases h

/-! ### function 29: loop.example/g01322/impl.clashes -/
noncomputable def f_iclashes_c : Code := match Try.f29.body with | some c => c | none => .skip
noncomputable def f_iclashes_X : Ctx := ⟨TT, phiOf [(46, c_iRow_joints), (47, c_iapartOf)], noPsi, noXi⟩
def f_iclashes_LV : List (Nat × Keep) := [(3, ([3, 9, 10, 21, 22, 23], [], [])), (6, ([3, 9, 10, 11, 12, 21, 22, 23, 28, 29, 30], [], []))]
def f_iclashes_rv : List ResultVar := [.tmp 8]
noncomputable def f_iclashes_L (r : List A) : Nat → AS → Option (List A) := L f_iclashes_X (cnOf f_iclashes_LV) f_iclashes_c (K0 TT f_iclashes_rv) r
theorem f_iclashes_ctx : CtxOK Try.prog f_iclashes_X := ctx_of tab mix ⟨⟨Try.call46, f_iRow_joints_sound⟩, ⟨Try.call47, f_iapartOf_sound⟩, trivial⟩
noncomputable def f_iclashes_s3 (x0 : Int) (x1 : Int) (x2 : Int) (x3 : (List (Nat → Int))) (x4 : (List (Int × Int))) (x5 : (List (Int × Int))) : AS := ⟨[(3, .a (.v (.int .i64 x0))), (9, .a (.sl 0)), (10, .a (.sl 1)), (21, .a (.sl 2)), (22, .a (.v (.int .i64 x1))), (23, .a (.v (.int .i64 x2)))], [(0, some ⟨true, .arr (.one (.fa 2 .i64)) x3⟩), (1, some ⟨true, .arr (.st [(.i .i16), (.i .i16)]) x4⟩), (2, some ⟨true, .arr (.st [(.i .i16), (.i .i16)]) x5⟩)], 3⟩
noncomputable def f_iclashes_s6 (x0 : Int) (x1 : Int) (x2 : Int) (x3 : Int) (x4 : Int) (x5 : Int) (x6 : (List (Nat → Int))) (x7 : (List (Int × Int))) (x8 : Int) (x9 : Int) (x10 : (List (Int × Int))) : AS := ⟨[(3, .a (.v (.int .i64 x0))), (9, .a (.sl 0)), (10, .a (.sl 1)), (11, .a (.v (.int .i64 x1))), (12, .a (.ptr 2 [] (0))), (21, .a (.sl 3)), (22, .a (.v (.int .i64 x2))), (23, .a (.v (.int .i64 x3))), (28, .a (.sl 1)), (29, .a (.v (.int .i64 x4))), (30, .a (.v (.int .i64 x5)))], [(0, some ⟨true, .arr (.one (.fa 2 .i64)) x6⟩), (1, some ⟨true, .arr (.st [(.i .i16), (.i .i16)]) x7⟩), (2, some ⟨true, .box (.rc [.v (.int .i16 x8), .v (.int .i16 x9)])⟩), (3, some ⟨true, .arr (.st [(.i .i16), (.i .i16)]) x10⟩)], 4⟩
noncomputable def l_iclashes (r : (List (Nat → Int))) : List A := [.lst (.one (.fa 2 .i64)) r]
theorem f_iclashes_step6 (x0 : Int) (x1 : Int) (x2 : Int) (x3 : Int) (x4 : Int) (x5 : Int) (x6 : (List (Nat → Int))) (x7 : (List (Int × Int))) (x8 : Int) (x9 : Int) (x10 : (List (Int × Int))) (r : List A) (h : (cond (decide (x5 < x4)) (cond (inB x5 (List.length x7)) (cond (decide ((s_iapartOf x8 x9 (List.getD x7 (Int.toNat x5) ((0, 0) : (Int × Int))).1 (List.getD x7 (Int.toNat x5) ((0, 0) : (Int × Int))).2) < x0)) (cond (fits ((List.length (x6 : List (Nat → Int)) + List.length ([(upd (upd zF 0 x1) 1 x5)] : List (Nat → Int))) * 16)) (f_iclashes_L r 6 (f_iclashes_s6 x0 x1 x2 x3 x4 (IntKind.wrap .i64 (x5 + 1)) (x6 ++ [(upd (upd zF 0 x1) 1 x5)]) x7 x8 x9 x10)) none) (f_iclashes_L r 6 (f_iclashes_s6 x0 x1 x2 x3 x4 (IntKind.wrap .i64 (x5 + 1)) x6 x7 x8 x9 x10))) none) (f_iclashes_L r 3 (f_iclashes_s3 x0 x2 (IntKind.wrap .i64 (x3 + 1)) x6 x7 x10))) = some r) : f_iclashes_L r 6 (f_iclashes_s6 x0 x1 x2 x3 x4 x5 x6 x7 x8 x9 x10) = some r :=
  step_of' h (by kernel_rfl)
noncomputable def f_iclashes_n6 (x0 : Int) (x1 : Int) (x2 : Int) (x3 : Int) (x4 : Int) (x5 : Int) (x6 : (List (Nat → Int))) (x7 : (List (Int × Int))) (x8 : Int) (x9 : Int) (x10 : (List (Int × Int))) : Option ((Int × Int × Int × Int × Int × Int × (List (Nat → Int)) × (List (Int × Int)) × Int × Int × (List (Int × Int))) ⊕ ((Int × Int × Int × (List (Nat → Int)) × (List (Int × Int)) × (List (Int × Int))) ⊕ (List (Nat → Int)))) := (cond (decide (x5 < x4)) (cond (inB x5 (List.length x7)) (cond (decide ((s_iapartOf x8 x9 (List.getD x7 (Int.toNat x5) ((0, 0) : (Int × Int))).1 (List.getD x7 (Int.toNat x5) ((0, 0) : (Int × Int))).2) < x0)) (cond (fits ((List.length (x6 : List (Nat → Int)) + List.length ([(upd (upd zF 0 x1) 1 x5)] : List (Nat → Int))) * 16)) (some (Sum.inl (x0, x1, x2, x3, x4, (IntKind.wrap .i64 (x5 + 1)), (x6 ++ [(upd (upd zF 0 x1) 1 x5)]), x7, x8, x9, x10))) none) (some (Sum.inl (x0, x1, x2, x3, x4, (IntKind.wrap .i64 (x5 + 1)), x6, x7, x8, x9, x10)))) none) (some (Sum.inr (Sum.inl (x0, x2, (IntKind.wrap .i64 (x3 + 1)), x6, x7, x10)))))
noncomputable def f_iclashes_run6 (x : (Int × Int × Int × Int × Int × Int × (List (Nat → Int)) × (List (Int × Int)) × Int × Int × (List (Int × Int)))) : Option ((Int × Int × Int × (List (Nat → Int)) × (List (Int × Int)) × (List (Int × Int))) ⊕ (List (Nat → Int))) := iter (fun x => f_iclashes_n6 x.1 x.2.1 x.2.2.1 x.2.2.2.1 x.2.2.2.2.1 x.2.2.2.2.2.1 x.2.2.2.2.2.2.1 x.2.2.2.2.2.2.2.1 x.2.2.2.2.2.2.2.2.1 x.2.2.2.2.2.2.2.2.2.1 x.2.2.2.2.2.2.2.2.2.2) FU x
noncomputable def f_iclashes_G6 (r : List A) (x : (Int × Int × Int × Int × Int × Int × (List (Nat → Int)) × (List (Int × Int)) × Int × Int × (List (Int × Int)))) : Prop := f_iclashes_L r 6 (f_iclashes_s6 x.1 x.2.1 x.2.2.1 x.2.2.2.1 x.2.2.2.2.1 x.2.2.2.2.2.1 x.2.2.2.2.2.2.1 x.2.2.2.2.2.2.2.1 x.2.2.2.2.2.2.2.2.1 x.2.2.2.2.2.2.2.2.2.1 x.2.2.2.2.2.2.2.2.2.2) = some r
theorem f_iclashes_step3 (x0 : Int) (x1 : Int) (x2 : Int) (x3 : (List (Nat → Int))) (x4 : (List (Int × Int))) (x5 : (List (Int × Int))) (r : List A) (h : (cond (decide (x2 < x1)) (cond (inB x2 (List.length x5)) (f_iclashes_L r 6 (f_iclashes_s6 x0 x2 x1 x2 ((List.length x4 : Nat) : Int) 0 x3 x4 (List.getD x5 (Int.toNat x2) ((0, 0) : (Int × Int))).1 (List.getD x5 (Int.toNat x2) ((0, 0) : (Int × Int))).2 x5)) none) (some [.lst (.one (.fa 2 .i64)) x3])) = some r) : f_iclashes_L r 3 (f_iclashes_s3 x0 x1 x2 x3 x4 x5) = some r :=
  step_of' h (by kernel_rfl)
noncomputable def f_iclashes_n3 (x0 : Int) (x1 : Int) (x2 : Int) (x3 : (List (Nat → Int))) (x4 : (List (Int × Int))) (x5 : (List (Int × Int))) : Option ((Int × Int × Int × (List (Nat → Int)) × (List (Int × Int)) × (List (Int × Int))) ⊕ (List (Nat → Int))) := (cond (decide (x2 < x1)) (cond (inB x2 (List.length x5)) (f_iclashes_run6 (x0, x2, x1, x2, ((List.length x4 : Nat) : Int), 0, x3, x4, (List.getD x5 (Int.toNat x2) ((0, 0) : (Int × Int))).1, (List.getD x5 (Int.toNat x2) ((0, 0) : (Int × Int))).2, x5)) none) (some (Sum.inr x3)))
noncomputable def f_iclashes_run3 (x : (Int × Int × Int × (List (Nat → Int)) × (List (Int × Int)) × (List (Int × Int)))) : Option (List (Nat → Int)) := iter (fun x => f_iclashes_n3 x.1 x.2.1 x.2.2.1 x.2.2.2.1 x.2.2.2.2.1 x.2.2.2.2.2) FU x
noncomputable def f_iclashes_G3 (r : List A) (x : (Int × Int × Int × (List (Nat → Int)) × (List (Int × Int)) × (List (Int × Int)))) : Prop := f_iclashes_L r 3 (f_iclashes_s3 x.1 x.2.1 x.2.2.1 x.2.2.2.1 x.2.2.2.2.1 x.2.2.2.2.2) = some r
noncomputable def f_iclashes_S3 (r : List A) : (List (Nat → Int)) → Prop := fun v => r = l_iclashes v
noncomputable def f_iclashes_S6 (r : List A) : ((Int × Int × Int × (List (Nat → Int)) × (List (Int × Int)) × (List (Int × Int))) ⊕ (List (Nat → Int))) → Prop := goesOn (f_iclashes_G3 r) (f_iclashes_S3 r)
theorem f_iclashes_go6 (r : List A) : ∀ x, sem (f_iclashes_S6 r) (f_iclashes_run6 x) → f_iclashes_G6 r x :=
  fun x => iter_sound (step := fun x => f_iclashes_n6 x.1 x.2.1 x.2.2.1 x.2.2.2.1 x.2.2.2.2.1 x.2.2.2.2.2.1 x.2.2.2.2.2.2.1 x.2.2.2.2.2.2.2.1 x.2.2.2.2.2.2.2.2.1 x.2.2.2.2.2.2.2.2.2.1 x.2.2.2.2.2.2.2.2.2.2) (fun x h => by
    unfold f_iclashes_n6 at h
    exact f_iclashes_step6 x.1 x.2.1 x.2.2.1 x.2.2.2.1 x.2.2.2.2.1 x.2.2.2.2.2.1 x.2.2.2.2.2.2.1 x.2.2.2.2.2.2.2.1 x.2.2.2.2.2.2.2.2.1 x.2.2.2.2.2.2.2.2.2.1 x.2.2.2.2.2.2.2.2.2.2 r ((sem_cond h (fun h => (sem_cond h (fun h => (sem_cond h (fun h => (sem_cond h (fun h => sem_got h fun q => q) (fun h => sem_none h))) (fun h => sem_got h fun q => q))) (fun h => sem_none h))) (fun h => sem_got h fun q => q)))) FU x
theorem f_iclashes_go3 (r : List A) : ∀ x, sem (f_iclashes_S3 r) (f_iclashes_run3 x) → f_iclashes_G3 r x :=
  fun x => iter_sound (step := fun x => f_iclashes_n3 x.1 x.2.1 x.2.2.1 x.2.2.2.1 x.2.2.2.2.1 x.2.2.2.2.2) (fun x h => by
    unfold f_iclashes_n3 at h
    exact f_iclashes_step3 x.1 x.2.1 x.2.2.1 x.2.2.2.1 x.2.2.2.2.1 x.2.2.2.2.2 r ((sem_cond h (fun h => (sem_cond h (fun h => f_iclashes_go6 r _ h) (fun h => sem_none h))) (fun h => sem_got h fun q => some_eq q)))) FU x
noncomputable def s_iclashes (a0 : (List Int)) (a1 : (List Int)) (a2 : Int) (a3 : Int) : Option (List (Nat → Int)) := (Option.bind (s_iRow_joints a1 a2) fun r1 => (Option.bind (s_iRow_joints a0 a2) fun r2 => (f_iclashes_run3 (a3, ((List.length r2 : Nat) : Int), 0, [], r1, r2))))
theorem f_iclashes_top (a0 : (List Int)) (a1 : (List Int)) (a2 : Int) (a3 : Int) (r : List A) : ev f_iclashes_X (lpc (cnOf f_iclashes_LV) (f_iclashes_L r)) f_iclashes_c (K0 TT f_iclashes_rv) (enter [.lst (.one (.i .i16)) a0, .lst (.one (.i .i16)) a1, .v (.int .i64 a2), .v (.int .i64 a3)]) = (Option.bind (s_iRow_joints a1 a2) fun r1 => (Option.bind (s_iRow_joints a0 a2) fun r2 => (f_iclashes_L r 3 (f_iclashes_s3 a3 ((List.length r2 : Nat) : Int) 0 [] r1 r2)))) := by kernel_rfl
theorem s_iclashes_ok (a0 : (List Int)) (a1 : (List Int)) (a2 : Int) (a3 : Int) (v : (List (Nat → Int))) (h : s_iclashes a0 a1 a2 a3 = some v) : (Option.bind (s_iRow_joints a1 a2) fun r1 => (Option.bind (s_iRow_joints a0 a2) fun r2 => (f_iclashes_L (l_iclashes v) 3 (f_iclashes_s3 a3 ((List.length r2 : Nat) : Int) 0 [] r1 r2)))) = some (l_iclashes v) := by
  unfold s_iclashes at h
  have go : ∀ r, sem (fun v => r = l_iclashes v) ((Option.bind (s_iRow_joints a1 a2) fun r1 => (Option.bind (s_iRow_joints a0 a2) fun r2 => (f_iclashes_run3 (a3, ((List.length r2 : Nat) : Int), 0, [], r1, r2))))) → (Option.bind (s_iRow_joints a1 a2) fun r1 => (Option.bind (s_iRow_joints a0 a2) fun r2 => (f_iclashes_L r 3 (f_iclashes_s3 a3 ((List.length r2 : Nat) : Int) 0 [] r1 r2)))) = some r := fun r h => (sem_bind h fun r1 h => (sem_bind h fun r2 h => f_iclashes_go3 r _ h))
  exact go (l_iclashes v) ⟨v, h, rfl⟩
noncomputable def c_iclashes : List A → ACall
  | [.lst (.one (.i .i16)) a0, .lst (.one (.i .i16)) a1, .v (.int .i64 a2), .v (.int .i64 a3)] => ⟨(List (Nat → Int)), s_iclashes a0 a1 a2 a3, fun r => .one (.lst (.one (.fa 2 .i64)) r)⟩
  | _ => ACall.fail
theorem f_iclashes_sound : Sound Try.prog 29 c_iclashes := by
  refine sound_good f_iclashes_ctx f_iclashes_LV 4 Try.func29 (c := f_iclashes_c) (by kernel_rfl) (rv := f_iclashes_rv) (by kernel_rfl) (by kernel_rfl) (by kernel_rfl) (by kernel_rfl) fun rs => ?_
  unfold c_iclashes
  split
  · rename_i a0 a1 a2 a3; intro v h; exact ⟨rfl, l_iclashes v, rfl, (f_iclashes_top a0 a1 a2 a3 _).trans (s_iclashes_ok a0 a1 a2 a3 v h)⟩
  · intro v h; cases h
end Go.RR
