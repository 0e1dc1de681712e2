/- Pictures: losing cells, filling. -/
import Derived.Test.YtkohnhkehedflaaVa
import Derived.Test.YtkohnhkehedflaaRw
set_option linter.unusedVariables false
set_option linter.unusedSimpArgs false
set_option maxRecDepth 100000
namespace Go.RR
open Go Go.Proofs

/-! ### function 65: loop.example/g01322/laws.toPicture -/
noncomputable def f_wtoPicture_c : Code := match Try.f65.body with | some c => c | none => .skip
noncomputable def f_wtoPicture_X : Ctx := ⟨TT, phiOf [(140, c_wtoByteA144)], noPsi, noXi⟩
def f_wtoPicture_LV : List (Nat × Keep) := []
def f_wtoPicture_rv : List ResultVar := [.cell 2 27]
noncomputable def f_wtoPicture_L (r : List A) : Nat → AS → Option (List A) := L f_wtoPicture_X (cnOf f_wtoPicture_LV) f_wtoPicture_c (K0 TT f_wtoPicture_rv) r
theorem f_wtoPicture_ctx : CtxOK Try.prog f_wtoPicture_X := ctx_of tab mix ⟨⟨Try.call140, f_wtoByteA144_sound⟩, trivial⟩
noncomputable def s_wtoPicture (a0 : Int) (a1 : Int) (a2 : (Nat → Int)) : (Int × Int × (Nat → Int)) := (a0, a1, (s_wtoByteA144 a2))
theorem f_wtoPicture_top (a0 : Int) (a1 : Int) (a2 : (Nat → Int)) (r : List A) : ev f_wtoPicture_X (lpc (cnOf f_wtoPicture_LV) (f_wtoPicture_L r)) f_wtoPicture_c (K0 TT f_wtoPicture_rv) (enter [.rc [.v (.int .i8 a0), .v (.int .i8 a1), .fa 144 .u8 a2]]) = (some [.rc [.v (.int .i8 a0), .v (.int .i8 a1), .fa 144 .u8 (s_wtoByteA144 a2)]]) := by kernel_rfl
noncomputable def l_wtoPicture (r : (Int × Int × (Nat → Int))) : List A := [.rc [.v (.int .i8 r.1), .v (.int .i8 r.2.1), .fa 144 .u8 r.2.2]]
theorem s_wtoPicture_ok (a0 : Int) (a1 : Int) (a2 : (Nat → Int)) : (some [.rc [.v (.int .i8 a0), .v (.int .i8 a1), .fa 144 .u8 (s_wtoByteA144 a2)]]) = some (l_wtoPicture (s_wtoPicture a0 a1 a2)) := by
  unfold s_wtoPicture
  exact rfl
noncomputable def c_wtoPicture : List A → ACall
  | [.rc [.v (.int .i8 a0), .v (.int .i8 a1), .fa 144 .u8 a2]] => ⟨(Int × Int × (Nat → Int)), some (s_wtoPicture a0 a1 a2), fun r => .one (.rc [.v (.int .i8 r.1), .v (.int .i8 r.2.1), .fa 144 .u8 r.2.2])⟩
  | _ => ACall.fail
theorem f_wtoPicture_sound : Sound Try.prog 65 c_wtoPicture := by
  refine sound_good f_wtoPicture_ctx f_wtoPicture_LV 1 Try.func65 (c := f_wtoPicture_c) (by kernel_rfl) (rv := f_wtoPicture_rv) (by kernel_rfl) (by kernel_rfl) (by kernel_rfl) (by kernel_rfl) fun rs => ?_
  unfold c_wtoPicture
  split
  · rename_i a0 a1 a2; intro v h; cases h; exact ⟨rfl, l_wtoPicture (s_wtoPicture a0 a1 a2), rfl, (f_wtoPicture_top a0 a1 a2 _).trans (s_wtoPicture_ok a0 a1 a2)⟩
  · intro v h; cases h

/-! ### function 127: (loop.example/g01322/impl.Picture).hasNumber -/
noncomputable def f_iPicture_hasNumber_c : Code := match Try.f127.body with | some c => c | none => .skip
noncomputable def f_iPicture_hasNumber_X : Ctx := ⟨TT, phiOf [(160, c_iPicture_has)], noPsi, noXi⟩
def f_iPicture_hasNumber_LV : List (Nat × Keep) := []
def f_iPicture_hasNumber_rv : List ResultVar := [.tmp 4]
noncomputable def f_iPicture_hasNumber_L (r : List A) : Nat → AS → Option (List A) := L f_iPicture_hasNumber_X (cnOf f_iPicture_hasNumber_LV) f_iPicture_hasNumber_c (K0 TT f_iPicture_hasNumber_rv) r
theorem f_iPicture_hasNumber_ctx : CtxOK Try.prog f_iPicture_hasNumber_X := ctx_of tab mix ⟨⟨Try.call160, f_iPicture_has_sound⟩, trivial⟩
noncomputable def s_iPicture_hasNumber (a0 : Int) (a1 : Int) (a2 : (Nat → Int)) (a3 : Int) : Bool := (cond (decide (a3 ≥ 0)) (s_iPicture_has a0 a1 a2 (Int.tmod a3 12) (IntKind.wrap .i64 (Int.tdiv a3 12))) false)
theorem f_iPicture_hasNumber_top (a0 : Int) (a1 : Int) (a2 : (Nat → Int)) (a3 : Int) (r : List A) : ev f_iPicture_hasNumber_X (lpc (cnOf f_iPicture_hasNumber_LV) (f_iPicture_hasNumber_L r)) f_iPicture_hasNumber_c (K0 TT f_iPicture_hasNumber_rv) (enter [.rc [.v (.int .i8 a0), .v (.int .i8 a1), .fa 144 .u8 a2], .v (.int .i64 a3)]) = (cond (decide (a3 ≥ 0)) (some [.v (.bool (s_iPicture_has a0 a1 a2 (Int.tmod a3 12) (IntKind.wrap .i64 (Int.tdiv a3 12))))]) (some [.v (.bool false)])) := by kernel_rfl
noncomputable def l_iPicture_hasNumber (r : Bool) : List A := [.v (.bool r)]
theorem s_iPicture_hasNumber_ok (a0 : Int) (a1 : Int) (a2 : (Nat → Int)) (a3 : Int) : (cond (decide (a3 ≥ 0)) (some [.v (.bool (s_iPicture_has a0 a1 a2 (Int.tmod a3 12) (IntKind.wrap .i64 (Int.tdiv a3 12))))]) (some [.v (.bool false)])) = some (l_iPicture_hasNumber (s_iPicture_hasNumber a0 a1 a2 a3)) := by
  unfold s_iPicture_hasNumber
  exact (cond_app (fun x => some (l_iPicture_hasNumber x)) rfl rfl)
noncomputable def c_iPicture_hasNumber : List A → ACall
  | [.rc [.v (.int .i8 a0), .v (.int .i8 a1), .fa 144 .u8 a2], .v (.int .i64 a3)] => ⟨Bool, some (s_iPicture_hasNumber a0 a1 a2 a3), fun r => .one (.v (.bool r))⟩
  | _ => ACall.fail
theorem f_iPicture_hasNumber_sound : Sound Try.prog 127 c_iPicture_hasNumber := by
  refine sound_good f_iPicture_hasNumber_ctx f_iPicture_hasNumber_LV 2 Try.func127 (c := f_iPicture_hasNumber_c) (by kernel_rfl) (rv := f_iPicture_hasNumber_rv) (by kernel_rfl) (by kernel_rfl) (by kernel_rfl) (by kernel_rfl) fun rs => ?_
  unfold c_iPicture_hasNumber
  split
  · rename_i a0 a1 a2 a3; intro v h; cases h; exact ⟨rfl, l_iPicture_hasNumber (s_iPicture_hasNumber a0 a1 a2 a3), rfl, (f_iPicture_hasNumber_top a0 a1 a2 a3 _).trans (s_iPicture_hasNumber_ok a0 a1 a2 a3)⟩
  · intro v h; cases h

/-! ### function 126: loop.example/g01322/impl.LoseCells$1 -/
noncomputable def f_iLoseCells_1_c : Code := match Try.f126.body with | some c => c | none => .skip
noncomputable def f_iLoseCells_1_X : Ctx := ⟨TT, phiOf [(127, c_iPicture_hasNumber)], noPsi, noXi⟩
def f_iLoseCells_1_LV : List (Nat × Keep) := []
def f_iLoseCells_1_rv : List ResultVar := [.tmp 3]
noncomputable def f_iLoseCells_1_L (r : List A) : Nat → AS → Option (List A) := L f_iLoseCells_1_X (cnOf f_iLoseCells_1_LV) f_iLoseCells_1_c (K0 TT f_iLoseCells_1_rv) r
theorem f_iLoseCells_1_ctx : CtxOK Try.prog f_iLoseCells_1_X := ctx_of tab mix ⟨⟨Try.call127, f_iPicture_hasNumber_sound⟩, trivial⟩
noncomputable def s_iLoseCells_1 (a0 : Int) (a1 : Int) (a2 : Int) (a3 : (Nat → Int)) : Bool := (!(s_iPicture_hasNumber a1 a2 a3 a0))
theorem f_iLoseCells_1_top (a0 : Int) (a1 : Int) (a2 : Int) (a3 : (Nat → Int)) (r : List A) : ev f_iLoseCells_1_X (lpc (cnOf f_iLoseCells_1_LV) (f_iLoseCells_1_L r)) f_iLoseCells_1_c (K0 TT f_iLoseCells_1_rv) (enter [.v (.int .i64 a0), .ref (.rc [.v (.int .i8 a1), .v (.int .i8 a2), .fa 144 .u8 a3])]) = (some [.v (.bool (!(s_iPicture_hasNumber a1 a2 a3 a0)))]) := by kernel_rfl
noncomputable def l_iLoseCells_1 (r : Bool) : List A := [.v (.bool r)]
theorem s_iLoseCells_1_ok (a0 : Int) (a1 : Int) (a2 : Int) (a3 : (Nat → Int)) : (some [.v (.bool (!(s_iPicture_hasNumber a1 a2 a3 a0)))]) = some (l_iLoseCells_1 (s_iLoseCells_1 a0 a1 a2 a3)) := by
  unfold s_iLoseCells_1
  exact rfl
noncomputable def c_iLoseCells_1 : List A → ACall
  | [.v (.int .i64 a0), .ref (.rc [.v (.int .i8 a1), .v (.int .i8 a2), .fa 144 .u8 a3])] => ⟨Bool, some (s_iLoseCells_1 a0 a1 a2 a3), fun r => .one (.v (.bool r))⟩
  | _ => ACall.fail
theorem f_iLoseCells_1_sound : Sound Try.prog 126 c_iLoseCells_1 := by
  refine sound_good f_iLoseCells_1_ctx f_iLoseCells_1_LV 2 Try.func126 (c := f_iLoseCells_1_c) (by kernel_rfl) (rv := f_iLoseCells_1_rv) (by kernel_rfl) (by kernel_rfl) (by kernel_rfl) (by kernel_rfl) fun rs => ?_
  unfold c_iLoseCells_1
  split
  · rename_i a0 a1 a2 a3; intro v h; cases h; exact ⟨rfl, l_iLoseCells_1 (s_iLoseCells_1 a0 a1 a2 a3), rfl, (f_iLoseCells_1_top a0 a1 a2 a3 _).trans (s_iLoseCells_1_ok a0 a1 a2 a3)⟩
  · intro v h; cases h

/-! ### function 181: slices.IndexFunc[[]int64,int64] -/
noncomputable def f_gIndexFunc_int64_a_c : Code := match Try.f181.body with | some c => c | none => .skip
noncomputable def f_gIndexFunc_int64_a_X : Ctx := ⟨TT, phiOf [(126, c_iLoseCells_1)], noPsi, noXi⟩
def f_gIndexFunc_int64_a_LV : List (Nat × Keep) := [(2, ([0, 1, 7, 8], [], []))]
def f_gIndexFunc_int64_a_rv : List ResultVar := [.tmp 4]
noncomputable def f_gIndexFunc_int64_a_L (r : List A) : Nat → AS → Option (List A) := L f_gIndexFunc_int64_a_X (cnOf f_gIndexFunc_int64_a_LV) f_gIndexFunc_int64_a_c (K0 TT f_gIndexFunc_int64_a_rv) r
theorem f_gIndexFunc_int64_a_ctx : CtxOK Try.prog f_gIndexFunc_int64_a_X := ctx_of tab mix ⟨⟨Try.call126, f_iLoseCells_1_sound⟩, trivial⟩
noncomputable def f_gIndexFunc_int64_a_s2 (x0 : Int) (x1 : Int) (x2 : (List Int)) (x3 : Int) (x4 : Int) (x5 : (Nat → Int)) : AS := ⟨[(0, .a (.sl 0)), (1, .a (.clo 126 [.ptr 1 [] (0)])), (7, .a (.v (.int .i64 x0))), (8, .a (.v (.int .i64 x1)))], [(0, some ⟨false, .arr (.one (.i .i64)) x2⟩), (1, some ⟨false, .box (.rc [.v (.int .i8 x3), .v (.int .i8 x4), .fa 144 .u8 x5])⟩)], 2⟩
noncomputable def l_gIndexFunc_int64_a (r : Int) : List A := [.v (.int .i64 r)]
theorem f_gIndexFunc_int64_a_step2 (x0 : Int) (x1 : Int) (x2 : (List Int)) (x3 : Int) (x4 : Int) (x5 : (Nat → Int)) (r : List A) (h : (cond (decide (x1 < x0)) (cond (inB x1 (List.length x2)) (cond (s_iLoseCells_1 (List.getD x2 (Int.toNat x1) 0) x3 x4 x5) (some [.v (.int .i64 x1)]) (f_gIndexFunc_int64_a_L r 2 (f_gIndexFunc_int64_a_s2 x0 (IntKind.wrap .i64 (x1 + 1)) x2 x3 x4 x5))) none) (some [.v (.int .i64 (-1))])) = some r) : f_gIndexFunc_int64_a_L r 2 (f_gIndexFunc_int64_a_s2 x0 x1 x2 x3 x4 x5) = some r :=
  step_of' h (by kernel_rfl)
noncomputable def f_gIndexFunc_int64_a_n2 (x0 : Int) (x1 : Int) (x2 : (List Int)) (x3 : Int) (x4 : Int) (x5 : (Nat → Int)) : Option ((Int × Int × (List Int) × Int × Int × (Nat → Int)) ⊕ Int) := (cond (decide (x1 < x0)) (cond (inB x1 (List.length x2)) (cond (s_iLoseCells_1 (List.getD x2 (Int.toNat x1) 0) x3 x4 x5) (some (Sum.inr x1)) (some (Sum.inl (x0, (IntKind.wrap .i64 (x1 + 1)), x2, x3, x4, x5)))) none) (some (Sum.inr (-1))))
noncomputable def f_gIndexFunc_int64_a_run2 (x : (Int × Int × (List Int) × Int × Int × (Nat → Int))) : Option Int := iter (fun x => f_gIndexFunc_int64_a_n2 x.1 x.2.1 x.2.2.1 x.2.2.2.1 x.2.2.2.2.1 x.2.2.2.2.2) FU x
noncomputable def f_gIndexFunc_int64_a_G2 (r : List A) (x : (Int × Int × (List Int) × Int × Int × (Nat → Int))) : Prop := f_gIndexFunc_int64_a_L r 2 (f_gIndexFunc_int64_a_s2 x.1 x.2.1 x.2.2.1 x.2.2.2.1 x.2.2.2.2.1 x.2.2.2.2.2) = some r
noncomputable def f_gIndexFunc_int64_a_S2 (r : List A) : Int → Prop := fun v => r = l_gIndexFunc_int64_a v
theorem f_gIndexFunc_int64_a_go2 (r : List A) : ∀ x, sem (f_gIndexFunc_int64_a_S2 r) (f_gIndexFunc_int64_a_run2 x) → f_gIndexFunc_int64_a_G2 r x :=
  fun x => iter_sound (step := fun x => f_gIndexFunc_int64_a_n2 x.1 x.2.1 x.2.2.1 x.2.2.2.1 x.2.2.2.2.1 x.2.2.2.2.2) (fun x h => by
    unfold f_gIndexFunc_int64_a_n2 at h
    exact f_gIndexFunc_int64_a_step2 x.1 x.2.1 x.2.2.1 x.2.2.2.1 x.2.2.2.2.1 x.2.2.2.2.2 r ((sem_cond h (fun h => (sem_cond h (fun h => (sem_cond h (fun h => sem_got h fun q => some_eq q) (fun h => sem_got h fun q => q))) (fun h => sem_none h))) (fun h => sem_got h fun q => some_eq q)))) FU x
noncomputable def s_gIndexFunc_int64_a (a0 : (List Int)) (a1 : Int) (a2 : Int) (a3 : (Nat → Int)) : Option Int := (f_gIndexFunc_int64_a_run2 (((List.length a0 : Nat) : Int), 0, a0, a1, a2, a3))
theorem f_gIndexFunc_int64_a_top (a0 : (List Int)) (a1 : Int) (a2 : Int) (a3 : (Nat → Int)) (r : List A) : ev f_gIndexFunc_int64_a_X (lpc (cnOf f_gIndexFunc_int64_a_LV) (f_gIndexFunc_int64_a_L r)) f_gIndexFunc_int64_a_c (K0 TT f_gIndexFunc_int64_a_rv) (enter [.lst (.one (.i .i64)) a0, .clo 126 [.ref (.rc [.v (.int .i8 a1), .v (.int .i8 a2), .fa 144 .u8 a3])]]) = (f_gIndexFunc_int64_a_L r 2 (f_gIndexFunc_int64_a_s2 ((List.length a0 : Nat) : Int) 0 a0 a1 a2 a3)) := by kernel_rfl
theorem s_gIndexFunc_int64_a_ok (a0 : (List Int)) (a1 : Int) (a2 : Int) (a3 : (Nat → Int)) (v : Int) (h : s_gIndexFunc_int64_a a0 a1 a2 a3 = some v) : (f_gIndexFunc_int64_a_L (l_gIndexFunc_int64_a v) 2 (f_gIndexFunc_int64_a_s2 ((List.length a0 : Nat) : Int) 0 a0 a1 a2 a3)) = some (l_gIndexFunc_int64_a v) := by
  unfold s_gIndexFunc_int64_a at h
  have go : ∀ r, sem (fun v => r = l_gIndexFunc_int64_a v) ((f_gIndexFunc_int64_a_run2 (((List.length a0 : Nat) : Int), 0, a0, a1, a2, a3))) → (f_gIndexFunc_int64_a_L r 2 (f_gIndexFunc_int64_a_s2 ((List.length a0 : Nat) : Int) 0 a0 a1 a2 a3)) = some r := fun r h => f_gIndexFunc_int64_a_go2 r _ h
  exact go (l_gIndexFunc_int64_a v) ⟨v, h, rfl⟩
noncomputable def c_gIndexFunc_int64_a : List A → ACall
  | [.lst (.one (.i .i64)) a0, .clo 126 [.ref (.rc [.v (.int .i8 a1), .v (.int .i8 a2), .fa 144 .u8 a3])]] => ⟨Int, s_gIndexFunc_int64_a a0 a1 a2 a3, fun r => .one (.v (.int .i64 r))⟩
  | _ => ACall.fail
theorem f_gIndexFunc_int64_a_sound : Sound Try.prog 181 c_gIndexFunc_int64_a := by
  refine sound_good f_gIndexFunc_int64_a_ctx f_gIndexFunc_int64_a_LV 2 Try.func181 (c := f_gIndexFunc_int64_a_c) (by kernel_rfl) (rv := f_gIndexFunc_int64_a_rv) (by kernel_rfl) (by kernel_rfl) (by kernel_rfl) (by kernel_rfl) fun rs => ?_
  unfold c_gIndexFunc_int64_a
  split
  · rename_i a0 a1 a2 a3; intro v h; exact ⟨rfl, l_gIndexFunc_int64_a v, rfl, (f_gIndexFunc_int64_a_top a0 a1 a2 a3 _).trans (s_gIndexFunc_int64_a_ok a0 a1 a2 a3 v h)⟩
  · intro v h; cases h
def m_gIndexFunc_int64_a : List A → Bool
  | [_, .clo 126 _] => true
  | _ => false

/-! ### function 125: slices.ContainsFunc[[]int64,int64] -/
noncomputable def f_gContainsFunc_int64_a_c : Code := match Try.f125.body with | some c => c | none => .skip
noncomputable def f_gContainsFunc_int64_a_X : Ctx := ⟨TT, phiOf [(181, c_gIndexFunc_int64_a)], noPsi, noXi⟩
def f_gContainsFunc_int64_a_LV : List (Nat × Keep) := []
def f_gContainsFunc_int64_a_rv : List ResultVar := [.tmp 4]
noncomputable def f_gContainsFunc_int64_a_L (r : List A) : Nat → AS → Option (List A) := L f_gContainsFunc_int64_a_X (cnOf f_gContainsFunc_int64_a_LV) f_gContainsFunc_int64_a_c (K0 TT f_gContainsFunc_int64_a_rv) r
theorem f_gContainsFunc_int64_a_ctx : CtxOK Try.prog f_gContainsFunc_int64_a_X := ctx_of tab mix ⟨⟨Try.call181, f_gIndexFunc_int64_a_sound⟩, trivial⟩
noncomputable def s_gContainsFunc_int64_a (a0 : (List Int)) (a1 : Int) (a2 : Int) (a3 : (Nat → Int)) : Option Bool := (Option.bind (s_gIndexFunc_int64_a a0 a1 a2 a3) fun r1 => (some (decide (r1 ≥ 0))))
theorem f_gContainsFunc_int64_a_top (a0 : (List Int)) (a1 : Int) (a2 : Int) (a3 : (Nat → Int)) (r : List A) : ev f_gContainsFunc_int64_a_X (lpc (cnOf f_gContainsFunc_int64_a_LV) (f_gContainsFunc_int64_a_L r)) f_gContainsFunc_int64_a_c (K0 TT f_gContainsFunc_int64_a_rv) (enter [.lst (.one (.i .i64)) a0, .clo 126 [.ref (.rc [.v (.int .i8 a1), .v (.int .i8 a2), .fa 144 .u8 a3])]]) = (Option.bind (s_gIndexFunc_int64_a a0 a1 a2 a3) fun r1 => (some [.v (.bool (decide (r1 ≥ 0)))])) := by kernel_rfl
noncomputable def l_gContainsFunc_int64_a (r : Bool) : List A := [.v (.bool r)]
theorem s_gContainsFunc_int64_a_ok (a0 : (List Int)) (a1 : Int) (a2 : Int) (a3 : (Nat → Int)) (v : Bool) (h : s_gContainsFunc_int64_a a0 a1 a2 a3 = some v) : (Option.bind (s_gIndexFunc_int64_a a0 a1 a2 a3) fun r1 => (some [.v (.bool (decide (r1 ≥ 0)))])) = some (l_gContainsFunc_int64_a v) := by
  have e : (Option.bind (s_gIndexFunc_int64_a a0 a1 a2 a3) fun r1 => (some [.v (.bool (decide (r1 ≥ 0)))])) = Option.map l_gContainsFunc_int64_a (s_gContainsFunc_int64_a a0 a1 a2 a3) := by
    unfold s_gContainsFunc_int64_a
    exact (bind_app fun _ => rfl)
  rw [e, h]; rfl
noncomputable def c_gContainsFunc_int64_a : List A → ACall
  | [.lst (.one (.i .i64)) a0, .clo 126 [.ref (.rc [.v (.int .i8 a1), .v (.int .i8 a2), .fa 144 .u8 a3])]] => ⟨Bool, s_gContainsFunc_int64_a a0 a1 a2 a3, fun r => .one (.v (.bool r))⟩
  | _ => ACall.fail
theorem f_gContainsFunc_int64_a_sound : Sound Try.prog 125 c_gContainsFunc_int64_a := by
  refine sound_good f_gContainsFunc_int64_a_ctx f_gContainsFunc_int64_a_LV 2 Try.func125 (c := f_gContainsFunc_int64_a_c) (by kernel_rfl) (rv := f_gContainsFunc_int64_a_rv) (by kernel_rfl) (by kernel_rfl) (by kernel_rfl) (by kernel_rfl) fun rs => ?_
  unfold c_gContainsFunc_int64_a
  split
  · rename_i a0 a1 a2 a3; intro v h; exact ⟨rfl, l_gContainsFunc_int64_a v, rfl, (f_gContainsFunc_int64_a_top a0 a1 a2 a3 _).trans (s_gContainsFunc_int64_a_ok a0 a1 a2 a3 v h)⟩
  · intro v h; cases h
def m_gContainsFunc_int64_a : List A → Bool
  | [_, .clo 126 _] => true
  | _ => false

/-! ### function 49: loop.example/g01322/impl.LoseCells -/
noncomputable def f_iLoseCells_c : Code := match Try.f49.body with | some c => c | none => .skip
noncomputable def f_iLoseCells_X : Ctx := ⟨TT, phiOf [(125, c_gContainsFunc_int64_a), (86, c_iValidPicture), (91, c_icodeOf)], noPsi, noXi⟩
def f_iLoseCells_LV : List (Nat × Keep) := [(6, ([2, 4, 22, 23, 24], [], []))]
def f_iLoseCells_rv : List ResultVar := [.cell 4 27, .tmp 5]
noncomputable def f_iLoseCells_L (r : List A) : Nat → AS → Option (List A) := L f_iLoseCells_X (cnOf f_iLoseCells_LV) f_iLoseCells_c (K0 TT f_iLoseCells_rv) r
theorem f_iLoseCells_ctx : CtxOK Try.prog f_iLoseCells_X := ctx_of tab mix ⟨⟨Try.call125, f_gContainsFunc_int64_a_sound⟩, ⟨Try.call86, f_iValidPicture_sound⟩, ⟨Try.call91, f_icodeOf_sound⟩, trivial⟩
noncomputable def f_iLoseCells_s6 (x0 : Int) (x1 : Int) (x2 : Int) (x3 : Int) (x4 : (Nat → Int)) (x5 : Int) (x6 : Int) (x7 : (Nat → Int)) (x8 : (List Int)) : AS := ⟨[(2, .a (.ptr 0 [] (0))), (4, .a (.ptr 1 [] (0))), (22, .a (.sl 2)), (23, .a (.v (.int .i64 x0))), (24, .a (.v (.int .i64 x1)))], [(0, some ⟨true, .box (.rc [.v (.int .i8 x2), .v (.int .i8 x3), .fa 144 .u8 x4])⟩), (1, some ⟨true, .box (.rc [.v (.int .i8 x5), .v (.int .i8 x6), .fa 144 .u8 x7])⟩), (2, some ⟨false, .arr (.one (.i .i64)) x8⟩)], 3⟩
noncomputable def l_iLoseCells (r : (Int × Int × (Nat → Int) × Int)) : List A := [.rc [.v (.int .i8 r.1), .v (.int .i8 r.2.1), .fa 144 .u8 r.2.2.1], .v (.int .i64 r.2.2.2)]
theorem f_iLoseCells_step6 (x0 : Int) (x1 : Int) (x2 : Int) (x3 : Int) (x4 : (Nat → Int)) (x5 : Int) (x6 : Int) (x7 : (Nat → Int)) (x8 : (List Int)) (r : List A) (h : (cond (decide (x1 < x0)) (cond (inB x1 (List.length x8)) (cond (inB (List.getD x8 (Int.toNat x1) 0) 144) (f_iLoseCells_L r 6 (f_iLoseCells_s6 x0 (IntKind.wrap .i64 (x1 + 1)) x2 x3 (upd x4 (Int.toNat (List.getD x8 (Int.toNat x1) 0)) 0) x5 x6 x7 x8)) none) none) (some [.rc [.v (.int .i8 x2), .v (.int .i8 x3), .fa 144 .u8 x4], .v (.int .i64 0)])) = some r) : f_iLoseCells_L r 6 (f_iLoseCells_s6 x0 x1 x2 x3 x4 x5 x6 x7 x8) = some r :=
  step_of' h (by kernel_rfl)
noncomputable def f_iLoseCells_n6 (x0 : Int) (x1 : Int) (x2 : Int) (x3 : Int) (x4 : (Nat → Int)) (x5 : Int) (x6 : Int) (x7 : (Nat → Int)) (x8 : (List Int)) : Option ((Int × Int × Int × Int × (Nat → Int) × Int × Int × (Nat → Int) × (List Int)) ⊕ (Int × Int × (Nat → Int) × Int)) := (cond (decide (x1 < x0)) (cond (inB x1 (List.length x8)) (cond (inB (List.getD x8 (Int.toNat x1) 0) 144) (some (Sum.inl (x0, (IntKind.wrap .i64 (x1 + 1)), x2, x3, (upd x4 (Int.toNat (List.getD x8 (Int.toNat x1) 0)) 0), x5, x6, x7, x8))) none) none) (some (Sum.inr (x2, x3, x4, 0))))
noncomputable def f_iLoseCells_run6 (x : (Int × Int × Int × Int × (Nat → Int) × Int × Int × (Nat → Int) × (List Int))) : Option (Int × Int × (Nat → Int) × Int) := iter (fun x => f_iLoseCells_n6 x.1 x.2.1 x.2.2.1 x.2.2.2.1 x.2.2.2.2.1 x.2.2.2.2.2.1 x.2.2.2.2.2.2.1 x.2.2.2.2.2.2.2.1 x.2.2.2.2.2.2.2.2) FU x
noncomputable def f_iLoseCells_G6 (r : List A) (x : (Int × Int × Int × Int × (Nat → Int) × Int × Int × (Nat → Int) × (List Int))) : Prop := f_iLoseCells_L r 6 (f_iLoseCells_s6 x.1 x.2.1 x.2.2.1 x.2.2.2.1 x.2.2.2.2.1 x.2.2.2.2.2.1 x.2.2.2.2.2.2.1 x.2.2.2.2.2.2.2.1 x.2.2.2.2.2.2.2.2) = some r
noncomputable def f_iLoseCells_S6 (r : List A) : (Int × Int × (Nat → Int) × Int) → Prop := fun v => r = l_iLoseCells v
theorem f_iLoseCells_go6 (r : List A) : ∀ x, sem (f_iLoseCells_S6 r) (f_iLoseCells_run6 x) → f_iLoseCells_G6 r x :=
  fun x => iter_sound (step := fun x => f_iLoseCells_n6 x.1 x.2.1 x.2.2.1 x.2.2.2.1 x.2.2.2.2.1 x.2.2.2.2.2.1 x.2.2.2.2.2.2.1 x.2.2.2.2.2.2.2.1 x.2.2.2.2.2.2.2.2) (fun x h => by
    unfold f_iLoseCells_n6 at h
    exact f_iLoseCells_step6 x.1 x.2.1 x.2.2.1 x.2.2.2.1 x.2.2.2.2.1 x.2.2.2.2.2.1 x.2.2.2.2.2.2.1 x.2.2.2.2.2.2.2.1 x.2.2.2.2.2.2.2.2 r ((sem_cond h (fun h => (sem_cond h (fun h => (sem_cond h (fun h => sem_got h fun q => q) (fun h => sem_none h))) (fun h => sem_none h))) (fun h => sem_got h fun q => some_eq q)))) FU x
noncomputable def s_iLoseCells (a0 : Int) (a1 : Int) (a2 : (Nat → Int)) (a3 : (List Int)) : Option (Int × Int × (Nat → Int) × Int) := (Option.bind (s_gContainsFunc_int64_a a3 a0 a1 a2) fun r1 => (cond ((s_icodeOf (s_iValidPicture a0 a1 a2) (!r1)) != 0) (some (0, 0, zF, (s_icodeOf (s_iValidPicture a0 a1 a2) (!r1)))) (f_iLoseCells_run6 (((List.length a3 : Nat) : Int), 0, a0, a1, a2, 0, 0, zF, a3))))
theorem f_iLoseCells_top (a0 : Int) (a1 : Int) (a2 : (Nat → Int)) (a3 : (List Int)) (r : List A) : ev f_iLoseCells_X (lpc (cnOf f_iLoseCells_LV) (f_iLoseCells_L r)) f_iLoseCells_c (K0 TT f_iLoseCells_rv) (enter [.rc [.v (.int .i8 a0), .v (.int .i8 a1), .fa 144 .u8 a2], .lst (.one (.i .i64)) a3]) = (Option.bind (s_gContainsFunc_int64_a a3 a0 a1 a2) fun r1 => (cond ((s_icodeOf (s_iValidPicture a0 a1 a2) (!r1)) != 0) (some [.rc [.v (.int .i8 0), .v (.int .i8 0), .fa 144 .u8 zF], .v (.int .i64 (s_icodeOf (s_iValidPicture a0 a1 a2) (!r1)))]) (f_iLoseCells_L r 6 (f_iLoseCells_s6 ((List.length a3 : Nat) : Int) 0 a0 a1 a2 0 0 zF a3)))) := by kernel_rfl
theorem s_iLoseCells_ok (a0 : Int) (a1 : Int) (a2 : (Nat → Int)) (a3 : (List Int)) (v : (Int × Int × (Nat → Int) × Int)) (h : s_iLoseCells a0 a1 a2 a3 = some v) : (Option.bind (s_gContainsFunc_int64_a a3 a0 a1 a2) fun r1 => (cond ((s_icodeOf (s_iValidPicture a0 a1 a2) (!r1)) != 0) (some [.rc [.v (.int .i8 0), .v (.int .i8 0), .fa 144 .u8 zF], .v (.int .i64 (s_icodeOf (s_iValidPicture a0 a1 a2) (!r1)))]) (f_iLoseCells_L (l_iLoseCells v) 6 (f_iLoseCells_s6 ((List.length a3 : Nat) : Int) 0 a0 a1 a2 0 0 zF a3)))) = some (l_iLoseCells v) := by
  unfold s_iLoseCells at h
  have go : ∀ r, sem (fun v => r = l_iLoseCells v) ((Option.bind (s_gContainsFunc_int64_a a3 a0 a1 a2) fun r1 => (cond ((s_icodeOf (s_iValidPicture a0 a1 a2) (!r1)) != 0) (some (0, 0, zF, (s_icodeOf (s_iValidPicture a0 a1 a2) (!r1)))) (f_iLoseCells_run6 (((List.length a3 : Nat) : Int), 0, a0, a1, a2, 0, 0, zF, a3))))) → (Option.bind (s_gContainsFunc_int64_a a3 a0 a1 a2) fun r1 => (cond ((s_icodeOf (s_iValidPicture a0 a1 a2) (!r1)) != 0) (some [.rc [.v (.int .i8 0), .v (.int .i8 0), .fa 144 .u8 zF], .v (.int .i64 (s_icodeOf (s_iValidPicture a0 a1 a2) (!r1)))]) (f_iLoseCells_L r 6 (f_iLoseCells_s6 ((List.length a3 : Nat) : Int) 0 a0 a1 a2 0 0 zF a3)))) = some r := fun r h => (sem_bind h fun r1 h => (sem_cond h (fun h => sem_got h fun q => some_eq q) (fun h => f_iLoseCells_go6 r _ h)))
  exact go (l_iLoseCells v) ⟨v, h, rfl⟩
noncomputable def c_iLoseCells : List A → ACall
  | [.rc [.v (.int .i8 a0), .v (.int .i8 a1), .fa 144 .u8 a2], .lst (.one (.i .i64)) a3] => ⟨(Int × Int × (Nat → Int) × Int), s_iLoseCells a0 a1 a2 a3, fun r => .tup [.rc [.v (.int .i8 r.1), .v (.int .i8 r.2.1), .fa 144 .u8 r.2.2.1], .v (.int .i64 r.2.2.2)]⟩
  | _ => ACall.fail
theorem f_iLoseCells_sound : Sound Try.prog 49 c_iLoseCells := by
  refine sound_good f_iLoseCells_ctx f_iLoseCells_LV 2 Try.func49 (c := f_iLoseCells_c) (by kernel_rfl) (rv := f_iLoseCells_rv) (by kernel_rfl) (by kernel_rfl) (by kernel_rfl) (by kernel_rfl) fun rs => ?_
  unfold c_iLoseCells
  split
  · rename_i a0 a1 a2 a3; intro v h; exact ⟨rfl, l_iLoseCells v, rfl, (f_iLoseCells_top a0 a1 a2 a3 _).trans (s_iLoseCells_ok a0 a1 a2 a3 v h)⟩
  · intro v h; cases h

/-! ### function 161: (loop.example/g01322/impl.Picture).at -/
noncomputable def f_iPicture_at_c : Code := match Try.f161.body with | some c => c | none => .skip
noncomputable def f_iPicture_at_X : Ctx := ⟨TT, phiOf [], noPsi, noXi⟩
def f_iPicture_at_LV : List (Nat × Keep) := []
def f_iPicture_at_rv : List ResultVar := [.tmp 6]
noncomputable def f_iPicture_at_L (r : List A) : Nat → AS → Option (List A) := L f_iPicture_at_X (cnOf f_iPicture_at_LV) f_iPicture_at_c (K0 TT f_iPicture_at_rv) r
theorem f_iPicture_at_ctx : CtxOK Try.prog f_iPicture_at_X := ctx_of tab mix trivial
noncomputable def s_iPicture_at (a0 : Int) (a1 : Int) (a2 : (Nat → Int)) (a3 : Int) (a4 : Int) : Option Int := (cond (inB (IntKind.wrap .i64 (a3 + (IntKind.wrap .i64 (12 * a4)))) 144) (some (a2 (Int.toNat (IntKind.wrap .i64 (a3 + (IntKind.wrap .i64 (12 * a4))))))) none)
theorem f_iPicture_at_top (a0 : Int) (a1 : Int) (a2 : (Nat → Int)) (a3 : Int) (a4 : Int) (r : List A) : ev f_iPicture_at_X (lpc (cnOf f_iPicture_at_LV) (f_iPicture_at_L r)) f_iPicture_at_c (K0 TT f_iPicture_at_rv) (enter [.rc [.v (.int .i8 a0), .v (.int .i8 a1), .fa 144 .u8 a2], .v (.int .i64 a3), .v (.int .i64 a4)]) = (cond (inB (IntKind.wrap .i64 (a3 + (IntKind.wrap .i64 (12 * a4)))) 144) (some [.v (.int .u8 (a2 (Int.toNat (IntKind.wrap .i64 (a3 + (IntKind.wrap .i64 (12 * a4)))))))]) none) := by kernel_rfl
noncomputable def l_iPicture_at (r : Int) : List A := [.v (.int .u8 r)]
theorem s_iPicture_at_ok (a0 : Int) (a1 : Int) (a2 : (Nat → Int)) (a3 : Int) (a4 : Int) (v : Int) (h : s_iPicture_at a0 a1 a2 a3 a4 = some v) : (cond (inB (IntKind.wrap .i64 (a3 + (IntKind.wrap .i64 (12 * a4)))) 144) (some [.v (.int .u8 (a2 (Int.toNat (IntKind.wrap .i64 (a3 + (IntKind.wrap .i64 (12 * a4)))))))]) none) = some (l_iPicture_at v) := by
  have e : (cond (inB (IntKind.wrap .i64 (a3 + (IntKind.wrap .i64 (12 * a4)))) 144) (some [.v (.int .u8 (a2 (Int.toNat (IntKind.wrap .i64 (a3 + (IntKind.wrap .i64 (12 * a4)))))))]) none) = Option.map l_iPicture_at (s_iPicture_at a0 a1 a2 a3 a4) := by
    unfold s_iPicture_at
    exact (cond_app (Option.map l_iPicture_at) rfl rfl)
  rw [e, h]; rfl
noncomputable def c_iPicture_at : List A → ACall
  | [.rc [.v (.int .i8 a0), .v (.int .i8 a1), .fa 144 .u8 a2], .v (.int .i64 a3), .v (.int .i64 a4)] => ⟨Int, s_iPicture_at a0 a1 a2 a3 a4, fun r => .one (.v (.int .u8 r))⟩
  | _ => ACall.fail
theorem f_iPicture_at_sound : Sound Try.prog 161 c_iPicture_at := by
  refine sound_good f_iPicture_at_ctx f_iPicture_at_LV 3 Try.func161 (c := f_iPicture_at_c) (by kernel_rfl) (rv := f_iPicture_at_rv) (by kernel_rfl) (by kernel_rfl) (by kernel_rfl) (by kernel_rfl) fun rs => ?_
  unfold c_iPicture_at
  split
  · rename_i a0 a1 a2 a3 a4; intro v h; exact ⟨rfl, l_iPicture_at v, rfl, (f_iPicture_at_top a0 a1 a2 a3 a4 _).trans (s_iPicture_at_ok a0 a1 a2 a3 a4 v h)⟩
  · intro v h; cases h

/-! ### function 103: loop.example/g01322/spec.l06Lost -/
noncomputable def f_sl06Lost_c : Code := match Try.f103.body with | some c => c | none => .skip
noncomputable def f_sl06Lost_X : Ctx := ⟨TT, phiOf [(94, c_sl01Is)], noPsi, noXi⟩
def f_sl06Lost_LV : List (Nat × Keep) := [(3, ([0, 3, 4], [], []))]
def f_sl06Lost_rv : List ResultVar := [.tmp 2]
noncomputable def f_sl06Lost_L (r : List A) : Nat → AS → Option (List A) := L f_sl06Lost_X (cnOf f_sl06Lost_LV) f_sl06Lost_c (K0 TT f_sl06Lost_rv) r
theorem f_sl06Lost_ctx : CtxOK Try.prog f_sl06Lost_X := ctx_of tab mix ⟨⟨Try.call94, f_sl01Is_sound⟩, trivial⟩
noncomputable def f_sl06Lost_s3 (x0 : Int) (x1 : Int) (x2 : Int) (x3 : (Nat → Int)) (x4 : (List Int)) : AS := ⟨[(0, .a (.ptr 0 [] (0))), (3, .a (.sl 1)), (4, .a (.v (.int .i64 x0)))], [(0, some ⟨false, .box (.rc [.v (.int .i8 x1), .v (.int .i8 x2), .fa 144 .u8 x3])⟩), (1, some ⟨true, .arr (.one (.i .i64)) x4⟩)], 2⟩
noncomputable def l_sl06Lost (r : (List Int)) : List A := [.lst (.one (.i .i64)) r]
theorem f_sl06Lost_step3 (x0 : Int) (x1 : Int) (x2 : Int) (x3 : (Nat → Int)) (x4 : (List Int)) (r : List A) (h : (cond (decide (x0 < 144)) (cond (s_sl01Is x1 x2 x3 x0) (cond (inB x0 144) (cond ((x3 (Int.toNat x0)) == 0) (cond (fits ((List.length (x4 : List Int) + List.length ([x0] : List Int)) * 8)) (f_sl06Lost_L r 3 (f_sl06Lost_s3 (IntKind.wrap .i64 (x0 + 1)) x1 x2 x3 (x4 ++ [x0]))) none) (f_sl06Lost_L r 3 (f_sl06Lost_s3 (IntKind.wrap .i64 (x0 + 1)) x1 x2 x3 x4))) none) (f_sl06Lost_L r 3 (f_sl06Lost_s3 (IntKind.wrap .i64 (x0 + 1)) x1 x2 x3 x4))) (some [.lst (.one (.i .i64)) x4])) = some r) : f_sl06Lost_L r 3 (f_sl06Lost_s3 x0 x1 x2 x3 x4) = some r :=
  step_of' h (by kernel_rfl)
noncomputable def f_sl06Lost_n3 (x0 : Int) (x1 : Int) (x2 : Int) (x3 : (Nat → Int)) (x4 : (List Int)) : Option ((Int × Int × Int × (Nat → Int) × (List Int)) ⊕ (List Int)) := (cond (decide (x0 < 144)) (cond (s_sl01Is x1 x2 x3 x0) (cond (inB x0 144) (cond ((x3 (Int.toNat x0)) == 0) (cond (fits ((List.length (x4 : List Int) + List.length ([x0] : List Int)) * 8)) (some (Sum.inl ((IntKind.wrap .i64 (x0 + 1)), x1, x2, x3, (x4 ++ [x0])))) none) (some (Sum.inl ((IntKind.wrap .i64 (x0 + 1)), x1, x2, x3, x4)))) none) (some (Sum.inl ((IntKind.wrap .i64 (x0 + 1)), x1, x2, x3, x4)))) (some (Sum.inr x4)))
noncomputable def f_sl06Lost_run3 (x : (Int × Int × Int × (Nat → Int) × (List Int))) : Option (List Int) := iter (fun x => f_sl06Lost_n3 x.1 x.2.1 x.2.2.1 x.2.2.2.1 x.2.2.2.2) FU x
noncomputable def f_sl06Lost_G3 (r : List A) (x : (Int × Int × Int × (Nat → Int) × (List Int))) : Prop := f_sl06Lost_L r 3 (f_sl06Lost_s3 x.1 x.2.1 x.2.2.1 x.2.2.2.1 x.2.2.2.2) = some r
noncomputable def f_sl06Lost_S3 (r : List A) : (List Int) → Prop := fun v => r = l_sl06Lost v
theorem f_sl06Lost_go3 (r : List A) : ∀ x, sem (f_sl06Lost_S3 r) (f_sl06Lost_run3 x) → f_sl06Lost_G3 r x :=
  fun x => iter_sound (step := fun x => f_sl06Lost_n3 x.1 x.2.1 x.2.2.1 x.2.2.2.1 x.2.2.2.2) (fun x h => by
    unfold f_sl06Lost_n3 at h
    exact f_sl06Lost_step3 x.1 x.2.1 x.2.2.1 x.2.2.2.1 x.2.2.2.2 r ((sem_cond h (fun h => (sem_cond h (fun h => (sem_cond h (fun h => (sem_cond h (fun h => (sem_cond h (fun h => sem_got h fun q => q) (fun h => sem_none h))) (fun h => sem_got h fun q => q))) (fun h => sem_none h))) (fun h => sem_got h fun q => q))) (fun h => sem_got h fun q => some_eq q)))) FU x
noncomputable def s_sl06Lost (a0 : Int) (a1 : Int) (a2 : (Nat → Int)) : Option (List Int) := (f_sl06Lost_run3 (0, a0, a1, a2, []))
theorem f_sl06Lost_top (a0 : Int) (a1 : Int) (a2 : (Nat → Int)) (r : List A) : ev f_sl06Lost_X (lpc (cnOf f_sl06Lost_LV) (f_sl06Lost_L r)) f_sl06Lost_c (K0 TT f_sl06Lost_rv) (enter [.ref (.rc [.v (.int .i8 a0), .v (.int .i8 a1), .fa 144 .u8 a2])]) = (f_sl06Lost_L r 3 (f_sl06Lost_s3 0 a0 a1 a2 [])) := by kernel_rfl
theorem s_sl06Lost_ok (a0 : Int) (a1 : Int) (a2 : (Nat → Int)) (v : (List Int)) (h : s_sl06Lost a0 a1 a2 = some v) : (f_sl06Lost_L (l_sl06Lost v) 3 (f_sl06Lost_s3 0 a0 a1 a2 [])) = some (l_sl06Lost v) := by
  unfold s_sl06Lost at h
  have go : ∀ r, sem (fun v => r = l_sl06Lost v) ((f_sl06Lost_run3 (0, a0, a1, a2, []))) → (f_sl06Lost_L r 3 (f_sl06Lost_s3 0 a0 a1 a2 [])) = some r := fun r h => f_sl06Lost_go3 r _ h
  exact go (l_sl06Lost v) ⟨v, h, rfl⟩
noncomputable def c_sl06Lost : List A → ACall
  | [.ref (.rc [.v (.int .i8 a0), .v (.int .i8 a1), .fa 144 .u8 a2])] => ⟨(List Int), s_sl06Lost a0 a1 a2, fun r => .one (.lst (.one (.i .i64)) r)⟩
  | _ => ACall.fail
theorem f_sl06Lost_sound : Sound Try.prog 103 c_sl06Lost := by
  refine sound_good f_sl06Lost_ctx f_sl06Lost_LV 1 Try.func103 (c := f_sl06Lost_c) (by kernel_rfl) (rv := f_sl06Lost_rv) (by kernel_rfl) (by kernel_rfl) (by kernel_rfl) (by kernel_rfl) fun rs => ?_
  unfold c_sl06Lost
  split
  · rename_i a0 a1 a2; intro v h; exact ⟨rfl, l_sl06Lost v, rfl, (f_sl06Lost_top a0 a1 a2 _).trans (s_sl06Lost_ok a0 a1 a2 v h)⟩
  · intro v h; cases h

/-! ### function 22: loop.example/g01322/spec.LostCells -/
noncomputable def f_sLostCells_c : Code := match Try.f22.body with | some c => c | none => .skip
noncomputable def f_sLostCells_X : Ctx := ⟨TT, phiOf [(103, c_sl06Lost), (88, c_sl01Ok)], noPsi, noXi⟩
def f_sLostCells_LV : List (Nat × Keep) := []
def f_sLostCells_rv : List ResultVar := [.tmp 2, .tmp 3]
noncomputable def f_sLostCells_L (r : List A) : Nat → AS → Option (List A) := L f_sLostCells_X (cnOf f_sLostCells_LV) f_sLostCells_c (K0 TT f_sLostCells_rv) r
theorem f_sLostCells_ctx : CtxOK Try.prog f_sLostCells_X := ctx_of tab mix ⟨⟨Try.call103, f_sl06Lost_sound⟩, ⟨Try.call88, f_sl01Ok_sound⟩, trivial⟩
noncomputable def s_sLostCells (a0 : Int) (a1 : Int) (a2 : (Nat → Int)) : Option ((List Int) × Int) := (cond (!(s_sl01Ok a0 a1 a2)) (some ([], 1)) (Option.bind (s_sl06Lost a0 a1 a2) fun r1 => (some (r1, 0))))
theorem f_sLostCells_top (a0 : Int) (a1 : Int) (a2 : (Nat → Int)) (r : List A) : ev f_sLostCells_X (lpc (cnOf f_sLostCells_LV) (f_sLostCells_L r)) f_sLostCells_c (K0 TT f_sLostCells_rv) (enter [.rc [.v (.int .i8 a0), .v (.int .i8 a1), .fa 144 .u8 a2]]) = (cond (!(s_sl01Ok a0 a1 a2)) (some [.lst (.one (.i .i64)) [], .v (.int .i64 1)]) (Option.bind (s_sl06Lost a0 a1 a2) fun r1 => (some [.lst (.one (.i .i64)) r1, .v (.int .i64 0)]))) := by kernel_rfl
noncomputable def l_sLostCells (r : ((List Int) × Int)) : List A := [.lst (.one (.i .i64)) r.1, .v (.int .i64 r.2)]
theorem s_sLostCells_ok (a0 : Int) (a1 : Int) (a2 : (Nat → Int)) (v : ((List Int) × Int)) (h : s_sLostCells a0 a1 a2 = some v) : (cond (!(s_sl01Ok a0 a1 a2)) (some [.lst (.one (.i .i64)) [], .v (.int .i64 1)]) (Option.bind (s_sl06Lost a0 a1 a2) fun r1 => (some [.lst (.one (.i .i64)) r1, .v (.int .i64 0)]))) = some (l_sLostCells v) := by
  have e : (cond (!(s_sl01Ok a0 a1 a2)) (some [.lst (.one (.i .i64)) [], .v (.int .i64 1)]) (Option.bind (s_sl06Lost a0 a1 a2) fun r1 => (some [.lst (.one (.i .i64)) r1, .v (.int .i64 0)]))) = Option.map l_sLostCells (s_sLostCells a0 a1 a2) := by
    unfold s_sLostCells
    exact (cond_app (Option.map l_sLostCells) rfl (bind_app fun _ => rfl))
  rw [e, h]; rfl
noncomputable def c_sLostCells : List A → ACall
  | [.rc [.v (.int .i8 a0), .v (.int .i8 a1), .fa 144 .u8 a2]] => ⟨((List Int) × Int), s_sLostCells a0 a1 a2, fun r => .tup [.lst (.one (.i .i64)) r.1, .v (.int .i64 r.2)]⟩
  | _ => ACall.fail
theorem f_sLostCells_sound : Sound Try.prog 22 c_sLostCells := by
  refine sound_good f_sLostCells_ctx f_sLostCells_LV 1 Try.func22 (c := f_sLostCells_c) (by kernel_rfl) (rv := f_sLostCells_rv) (by kernel_rfl) (by kernel_rfl) (by kernel_rfl) (by kernel_rfl) fun rs => ?_
  unfold c_sLostCells
  split
  · rename_i a0 a1 a2; intro v h; exact ⟨rfl, l_sLostCells v, rfl, (f_sLostCells_top a0 a1 a2 _).trans (s_sLostCells_ok a0 a1 a2 v h)⟩
  · intro v h; cases h

/-! ### function 162: (loop.example/g01322/impl.Image).cells -/
noncomputable def f_iImage_cells_c : Code := match Try.f162.body with | some c => c | none => .skip
noncomputable def f_iImage_cells_X : Ctx := ⟨TT, phiOf [(203, c_iisCell)], noPsi, noXi⟩
def f_iImage_cells_LV : List (Nat × Keep) := [(3, ([1, 3, 6], [], []))]
def f_iImage_cells_rv : List ResultVar := [.tmp 2]
noncomputable def f_iImage_cells_L (r : List A) : Nat → AS → Option (List A) := L f_iImage_cells_X (cnOf f_iImage_cells_LV) f_iImage_cells_c (K0 TT f_iImage_cells_rv) r
theorem f_iImage_cells_ctx : CtxOK Try.prog f_iImage_cells_X := ctx_of tab mix ⟨⟨Try.call203, f_iisCell_sound⟩, trivial⟩
noncomputable def f_iImage_cells_s3 (x0 : Int) (x1 : Int) (x2 : Int) (x3 : (Nat → Nat → Int)) (x4 : (List Int)) : AS := ⟨[(1, .a (.ptr 0 [] (0))), (3, .a (.sl 1)), (6, .a (.v (.int .i64 x0)))], [(0, some ⟨true, .box (.rc [.v (.int .i8 x1), .v (.int .i8 x2), .fa2 144 3 .u8 x3])⟩), (1, some ⟨true, .arr (.one (.i .i64)) x4⟩)], 2⟩
noncomputable def l_iImage_cells (r : (List Int)) : List A := [.lst (.one (.i .i64)) r]
theorem f_iImage_cells_step3 (x0 : Int) (x1 : Int) (x2 : Int) (x3 : (Nat → Nat → Int)) (x4 : (List Int)) (r : List A) (h : (cond (decide (x0 < 144)) (cond (s_iisCell (Int.tmod x0 12) (IntKind.wrap .i64 (Int.tdiv x0 12)) x1 x2) (cond (fits ((List.length (x4 : List Int) + List.length ([x0] : List Int)) * 8)) (f_iImage_cells_L r 3 (f_iImage_cells_s3 (IntKind.wrap .i64 (x0 + 1)) x1 x2 x3 (x4 ++ [x0]))) none) (f_iImage_cells_L r 3 (f_iImage_cells_s3 (IntKind.wrap .i64 (x0 + 1)) x1 x2 x3 x4))) (some [.lst (.one (.i .i64)) x4])) = some r) : f_iImage_cells_L r 3 (f_iImage_cells_s3 x0 x1 x2 x3 x4) = some r :=
  step_of' h (by kernel_rfl)
noncomputable def f_iImage_cells_n3 (x0 : Int) (x1 : Int) (x2 : Int) (x3 : (Nat → Nat → Int)) (x4 : (List Int)) : Option ((Int × Int × Int × (Nat → Nat → Int) × (List Int)) ⊕ (List Int)) := (cond (decide (x0 < 144)) (cond (s_iisCell (Int.tmod x0 12) (IntKind.wrap .i64 (Int.tdiv x0 12)) x1 x2) (cond (fits ((List.length (x4 : List Int) + List.length ([x0] : List Int)) * 8)) (some (Sum.inl ((IntKind.wrap .i64 (x0 + 1)), x1, x2, x3, (x4 ++ [x0])))) none) (some (Sum.inl ((IntKind.wrap .i64 (x0 + 1)), x1, x2, x3, x4)))) (some (Sum.inr x4)))
noncomputable def f_iImage_cells_run3 (x : (Int × Int × Int × (Nat → Nat → Int) × (List Int))) : Option (List Int) := iter (fun x => f_iImage_cells_n3 x.1 x.2.1 x.2.2.1 x.2.2.2.1 x.2.2.2.2) FU x
noncomputable def f_iImage_cells_G3 (r : List A) (x : (Int × Int × Int × (Nat → Nat → Int) × (List Int))) : Prop := f_iImage_cells_L r 3 (f_iImage_cells_s3 x.1 x.2.1 x.2.2.1 x.2.2.2.1 x.2.2.2.2) = some r
noncomputable def f_iImage_cells_S3 (r : List A) : (List Int) → Prop := fun v => r = l_iImage_cells v
theorem f_iImage_cells_go3 (r : List A) : ∀ x, sem (f_iImage_cells_S3 r) (f_iImage_cells_run3 x) → f_iImage_cells_G3 r x :=
  fun x => iter_sound (step := fun x => f_iImage_cells_n3 x.1 x.2.1 x.2.2.1 x.2.2.2.1 x.2.2.2.2) (fun x h => by
    unfold f_iImage_cells_n3 at h
    exact f_iImage_cells_step3 x.1 x.2.1 x.2.2.1 x.2.2.2.1 x.2.2.2.2 r ((sem_cond h (fun h => (sem_cond h (fun h => (sem_cond h (fun h => sem_got h fun q => q) (fun h => sem_none h))) (fun h => sem_got h fun q => q))) (fun h => sem_got h fun q => some_eq q)))) FU x
noncomputable def s_iImage_cells (a0 : Int) (a1 : Int) (a2 : (Nat → Nat → Int)) : Option (List Int) := (f_iImage_cells_run3 (0, a0, a1, a2, []))
theorem f_iImage_cells_top (a0 : Int) (a1 : Int) (a2 : (Nat → Nat → Int)) (r : List A) : ev f_iImage_cells_X (lpc (cnOf f_iImage_cells_LV) (f_iImage_cells_L r)) f_iImage_cells_c (K0 TT f_iImage_cells_rv) (enter [.rc [.v (.int .i8 a0), .v (.int .i8 a1), .fa2 144 3 .u8 a2]]) = (f_iImage_cells_L r 3 (f_iImage_cells_s3 0 a0 a1 a2 [])) := by kernel_rfl
theorem s_iImage_cells_ok (a0 : Int) (a1 : Int) (a2 : (Nat → Nat → Int)) (v : (List Int)) (h : s_iImage_cells a0 a1 a2 = some v) : (f_iImage_cells_L (l_iImage_cells v) 3 (f_iImage_cells_s3 0 a0 a1 a2 [])) = some (l_iImage_cells v) := by
  unfold s_iImage_cells at h
  have go : ∀ r, sem (fun v => r = l_iImage_cells v) ((f_iImage_cells_run3 (0, a0, a1, a2, []))) → (f_iImage_cells_L r 3 (f_iImage_cells_s3 0 a0 a1 a2 [])) = some r := fun r h => f_iImage_cells_go3 r _ h
  exact go (l_iImage_cells v) ⟨v, h, rfl⟩
noncomputable def c_iImage_cells : List A → ACall
  | [.rc [.v (.int .i8 a0), .v (.int .i8 a1), .fa2 144 3 .u8 a2]] => ⟨(List Int), s_iImage_cells a0 a1 a2, fun r => .one (.lst (.one (.i .i64)) r)⟩
  | _ => ACall.fail
theorem f_iImage_cells_sound : Sound Try.prog 162 c_iImage_cells := by
  refine sound_good f_iImage_cells_ctx f_iImage_cells_LV 1 Try.func162 (c := f_iImage_cells_c) (by kernel_rfl) (rv := f_iImage_cells_rv) (by kernel_rfl) (by kernel_rfl) (by kernel_rfl) (by kernel_rfl) fun rs => ?_
  unfold c_iImage_cells
  split
  · rename_i a0 a1 a2; intro v h; exact ⟨rfl, l_iImage_cells v, rfl, (f_iImage_cells_top a0 a1 a2 _).trans (s_iImage_cells_ok a0 a1 a2 v h)⟩
  · intro v h; cases h

/-! ### function 99: (loop.example/g01322/impl.Picture).numbers -/
noncomputable def f_iPicture_numbers_c : Code := match Try.f99.body with | some c => c | none => .skip
noncomputable def f_iPicture_numbers_X : Ctx := ⟨TT, phiOf [(162, c_iImage_cells)], noPsi, noXi⟩
def f_iPicture_numbers_LV : List (Nat × Keep) := []
def f_iPicture_numbers_rv : List ResultVar := [.tmp 2]
noncomputable def f_iPicture_numbers_L (r : List A) : Nat → AS → Option (List A) := L f_iPicture_numbers_X (cnOf f_iPicture_numbers_LV) f_iPicture_numbers_c (K0 TT f_iPicture_numbers_rv) r
theorem f_iPicture_numbers_ctx : CtxOK Try.prog f_iPicture_numbers_X := ctx_of tab mix ⟨⟨Try.call162, f_iImage_cells_sound⟩, trivial⟩
noncomputable def s_iPicture_numbers (a0 : Int) (a1 : Int) (a2 : (Nat → Int)) : Option (List Int) := (Option.bind (s_iImage_cells a0 a1 zF2) fun r1 => (some r1))
theorem f_iPicture_numbers_top (a0 : Int) (a1 : Int) (a2 : (Nat → Int)) (r : List A) : ev f_iPicture_numbers_X (lpc (cnOf f_iPicture_numbers_LV) (f_iPicture_numbers_L r)) f_iPicture_numbers_c (K0 TT f_iPicture_numbers_rv) (enter [.rc [.v (.int .i8 a0), .v (.int .i8 a1), .fa 144 .u8 a2]]) = (Option.bind (s_iImage_cells a0 a1 zF2) fun r1 => (some [.lst (.one (.i .i64)) r1])) := by kernel_rfl
noncomputable def l_iPicture_numbers (r : (List Int)) : List A := [.lst (.one (.i .i64)) r]
theorem s_iPicture_numbers_ok (a0 : Int) (a1 : Int) (a2 : (Nat → Int)) (v : (List Int)) (h : s_iPicture_numbers a0 a1 a2 = some v) : (Option.bind (s_iImage_cells a0 a1 zF2) fun r1 => (some [.lst (.one (.i .i64)) r1])) = some (l_iPicture_numbers v) := by
  have e : (Option.bind (s_iImage_cells a0 a1 zF2) fun r1 => (some [.lst (.one (.i .i64)) r1])) = Option.map l_iPicture_numbers (s_iPicture_numbers a0 a1 a2) := by
    unfold s_iPicture_numbers
    exact (bind_app fun _ => rfl)
  rw [e, h]; rfl
noncomputable def c_iPicture_numbers : List A → ACall
  | [.rc [.v (.int .i8 a0), .v (.int .i8 a1), .fa 144 .u8 a2]] => ⟨(List Int), s_iPicture_numbers a0 a1 a2, fun r => .one (.lst (.one (.i .i64)) r)⟩
  | _ => ACall.fail
theorem f_iPicture_numbers_sound : Sound Try.prog 99 c_iPicture_numbers := by
  refine sound_good f_iPicture_numbers_ctx f_iPicture_numbers_LV 1 Try.func99 (c := f_iPicture_numbers_c) (by kernel_rfl) (rv := f_iPicture_numbers_rv) (by kernel_rfl) (by kernel_rfl) (by kernel_rfl) (by kernel_rfl) fun rs => ?_
  unfold c_iPicture_numbers
  split
  · rename_i a0 a1 a2; intro v h; exact ⟨rfl, l_iPicture_numbers v, rfl, (f_iPicture_numbers_top a0 a1 a2 _).trans (s_iPicture_numbers_ok a0 a1 a2 v h)⟩
  · intro v h; cases h

/-! ### function 23: loop.example/g01322/impl.LostCells -/
noncomputable def f_iLostCells_c : Code := match Try.f23.body with | some c => c | none => .skip
noncomputable def f_iLostCells_X : Ctx := ⟨TT, phiOf [(86, c_iValidPicture), (99, c_iPicture_numbers)], noPsi, noXi⟩
def f_iLostCells_LV : List (Nat × Keep) := [(5, ([1, 4, 12, 13, 14], [], []))]
def f_iLostCells_rv : List ResultVar := [.tmp 2, .tmp 3]
noncomputable def f_iLostCells_L (r : List A) : Nat → AS → Option (List A) := L f_iLostCells_X (cnOf f_iLostCells_LV) f_iLostCells_c (K0 TT f_iLostCells_rv) r
theorem f_iLostCells_ctx : CtxOK Try.prog f_iLostCells_X := ctx_of tab mix ⟨⟨Try.call86, f_iValidPicture_sound⟩, ⟨Try.call99, f_iPicture_numbers_sound⟩, trivial⟩
noncomputable def f_iLostCells_s5 (x0 : Int) (x1 : Int) (x2 : Int) (x3 : Int) (x4 : (Nat → Int)) (x5 : (List Int)) (x6 : (List Int)) : AS := ⟨[(1, .a (.ptr 0 [] (0))), (4, .a (.sl 1)), (12, .a (.sl 2)), (13, .a (.v (.int .i64 x0))), (14, .a (.v (.int .i64 x1)))], [(0, some ⟨true, .box (.rc [.v (.int .i8 x2), .v (.int .i8 x3), .fa 144 .u8 x4])⟩), (1, some ⟨true, .arr (.one (.i .i64)) x5⟩), (2, some ⟨true, .arr (.one (.i .i64)) x6⟩)], 3⟩
noncomputable def l_iLostCells (r : ((List Int) × Int)) : List A := [.lst (.one (.i .i64)) r.1, .v (.int .i64 r.2)]
theorem f_iLostCells_step5 (x0 : Int) (x1 : Int) (x2 : Int) (x3 : Int) (x4 : (Nat → Int)) (x5 : (List Int)) (x6 : (List Int)) (r : List A) (h : (cond (decide (x1 < x0)) (cond (inB x1 (List.length x6)) (cond (inB (List.getD x6 (Int.toNat x1) 0) 144) (cond ((x4 (Int.toNat (List.getD x6 (Int.toNat x1) 0))) == 0) (cond (fits ((List.length (x5 : List Int) + List.length ([(List.getD x6 (Int.toNat x1) 0)] : List Int)) * 8)) (f_iLostCells_L r 5 (f_iLostCells_s5 x0 (IntKind.wrap .i64 (x1 + 1)) x2 x3 x4 (x5 ++ [(List.getD x6 (Int.toNat x1) 0)]) x6)) none) (f_iLostCells_L r 5 (f_iLostCells_s5 x0 (IntKind.wrap .i64 (x1 + 1)) x2 x3 x4 x5 x6))) none) none) (some [.lst (.one (.i .i64)) x5, .v (.int .i64 0)])) = some r) : f_iLostCells_L r 5 (f_iLostCells_s5 x0 x1 x2 x3 x4 x5 x6) = some r :=
  step_of' h (by kernel_rfl)
noncomputable def f_iLostCells_n5 (x0 : Int) (x1 : Int) (x2 : Int) (x3 : Int) (x4 : (Nat → Int)) (x5 : (List Int)) (x6 : (List Int)) : Option ((Int × Int × Int × Int × (Nat → Int) × (List Int) × (List Int)) ⊕ ((List Int) × Int)) := (cond (decide (x1 < x0)) (cond (inB x1 (List.length x6)) (cond (inB (List.getD x6 (Int.toNat x1) 0) 144) (cond ((x4 (Int.toNat (List.getD x6 (Int.toNat x1) 0))) == 0) (cond (fits ((List.length (x5 : List Int) + List.length ([(List.getD x6 (Int.toNat x1) 0)] : List Int)) * 8)) (some (Sum.inl (x0, (IntKind.wrap .i64 (x1 + 1)), x2, x3, x4, (x5 ++ [(List.getD x6 (Int.toNat x1) 0)]), x6))) none) (some (Sum.inl (x0, (IntKind.wrap .i64 (x1 + 1)), x2, x3, x4, x5, x6)))) none) none) (some (Sum.inr (x5, 0))))
noncomputable def f_iLostCells_run5 (x : (Int × Int × Int × Int × (Nat → Int) × (List Int) × (List Int))) : Option ((List Int) × Int) := iter (fun x => f_iLostCells_n5 x.1 x.2.1 x.2.2.1 x.2.2.2.1 x.2.2.2.2.1 x.2.2.2.2.2.1 x.2.2.2.2.2.2) FU x
noncomputable def f_iLostCells_G5 (r : List A) (x : (Int × Int × Int × Int × (Nat → Int) × (List Int) × (List Int))) : Prop := f_iLostCells_L r 5 (f_iLostCells_s5 x.1 x.2.1 x.2.2.1 x.2.2.2.1 x.2.2.2.2.1 x.2.2.2.2.2.1 x.2.2.2.2.2.2) = some r
noncomputable def f_iLostCells_S5 (r : List A) : ((List Int) × Int) → Prop := fun v => r = l_iLostCells v
theorem f_iLostCells_go5 (r : List A) : ∀ x, sem (f_iLostCells_S5 r) (f_iLostCells_run5 x) → f_iLostCells_G5 r x :=
  fun x => iter_sound (step := fun x => f_iLostCells_n5 x.1 x.2.1 x.2.2.1 x.2.2.2.1 x.2.2.2.2.1 x.2.2.2.2.2.1 x.2.2.2.2.2.2) (fun x h => by
    unfold f_iLostCells_n5 at h
    exact f_iLostCells_step5 x.1 x.2.1 x.2.2.1 x.2.2.2.1 x.2.2.2.2.1 x.2.2.2.2.2.1 x.2.2.2.2.2.2 r ((sem_cond h (fun h => (sem_cond h (fun h => (sem_cond h (fun h => (sem_cond h (fun h => (sem_cond h (fun h => sem_got h fun q => q) (fun h => sem_none h))) (fun h => sem_got h fun q => q))) (fun h => sem_none h))) (fun h => sem_none h))) (fun h => sem_got h fun q => some_eq q)))) FU x
noncomputable def s_iLostCells (a0 : Int) (a1 : Int) (a2 : (Nat → Int)) : Option ((List Int) × Int) := (cond (!(s_iValidPicture a0 a1 a2)) (some ([], 1)) (Option.bind (s_iPicture_numbers a0 a1 a2) fun r1 => (f_iLostCells_run5 (((List.length r1 : Nat) : Int), 0, a0, a1, a2, [], r1))))
theorem f_iLostCells_top (a0 : Int) (a1 : Int) (a2 : (Nat → Int)) (r : List A) : ev f_iLostCells_X (lpc (cnOf f_iLostCells_LV) (f_iLostCells_L r)) f_iLostCells_c (K0 TT f_iLostCells_rv) (enter [.rc [.v (.int .i8 a0), .v (.int .i8 a1), .fa 144 .u8 a2]]) = (cond (!(s_iValidPicture a0 a1 a2)) (some [.lst (.one (.i .i64)) [], .v (.int .i64 1)]) (Option.bind (s_iPicture_numbers a0 a1 a2) fun r1 => (f_iLostCells_L r 5 (f_iLostCells_s5 ((List.length r1 : Nat) : Int) 0 a0 a1 a2 [] r1)))) := by kernel_rfl
theorem s_iLostCells_ok (a0 : Int) (a1 : Int) (a2 : (Nat → Int)) (v : ((List Int) × Int)) (h : s_iLostCells a0 a1 a2 = some v) : (cond (!(s_iValidPicture a0 a1 a2)) (some [.lst (.one (.i .i64)) [], .v (.int .i64 1)]) (Option.bind (s_iPicture_numbers a0 a1 a2) fun r1 => (f_iLostCells_L (l_iLostCells v) 5 (f_iLostCells_s5 ((List.length r1 : Nat) : Int) 0 a0 a1 a2 [] r1)))) = some (l_iLostCells v) := by
  unfold s_iLostCells at h
  have go : ∀ r, sem (fun v => r = l_iLostCells v) ((cond (!(s_iValidPicture a0 a1 a2)) (some ([], 1)) (Option.bind (s_iPicture_numbers a0 a1 a2) fun r1 => (f_iLostCells_run5 (((List.length r1 : Nat) : Int), 0, a0, a1, a2, [], r1))))) → (cond (!(s_iValidPicture a0 a1 a2)) (some [.lst (.one (.i .i64)) [], .v (.int .i64 1)]) (Option.bind (s_iPicture_numbers a0 a1 a2) fun r1 => (f_iLostCells_L r 5 (f_iLostCells_s5 ((List.length r1 : Nat) : Int) 0 a0 a1 a2 [] r1)))) = some r := fun r h => (sem_cond h (fun h => sem_got h fun q => some_eq q) (fun h => (sem_bind h fun r1 h => f_iLostCells_go5 r _ h)))
  exact go (l_iLostCells v) ⟨v, h, rfl⟩
noncomputable def c_iLostCells : List A → ACall
  | [.rc [.v (.int .i8 a0), .v (.int .i8 a1), .fa 144 .u8 a2]] => ⟨((List Int) × Int), s_iLostCells a0 a1 a2, fun r => .tup [.lst (.one (.i .i64)) r.1, .v (.int .i64 r.2)]⟩
  | _ => ACall.fail
theorem f_iLostCells_sound : Sound Try.prog 23 c_iLostCells := by
  refine sound_good f_iLostCells_ctx f_iLostCells_LV 1 Try.func23 (c := f_iLostCells_c) (by kernel_rfl) (rv := f_iLostCells_rv) (by kernel_rfl) (by kernel_rfl) (by kernel_rfl) (by kernel_rfl) fun rs => ?_
  unfold c_iLostCells
  split
  · rename_i a0 a1 a2; intro v h; exact ⟨rfl, l_iLostCells v, rfl, (f_iLostCells_top a0 a1 a2 _).trans (s_iLostCells_ok a0 a1 a2 v h)⟩
  · intro v h; cases h

/-! ### function 136: loop.example/g01322/spec.l00Same -/
noncomputable def f_sl00Same_c : Code := match Try.f136.body with | some c => c | none => .skip
noncomputable def f_sl00Same_X : Ctx := ⟨TT, phiOf [], noPsi, noXi⟩
def f_sl00Same_LV : List (Nat × Keep) := [(4, ([0, 1, 5], [], []))]
def f_sl00Same_rv : List ResultVar := [.tmp 4]
noncomputable def f_sl00Same_L (r : List A) : Nat → AS → Option (List A) := L f_sl00Same_X (cnOf f_sl00Same_LV) f_sl00Same_c (K0 TT f_sl00Same_rv) r
theorem f_sl00Same_ctx : CtxOK Try.prog f_sl00Same_X := ctx_of tab mix trivial
noncomputable def f_sl00Same_s4 (x0 : Int) (x1 : (List Int)) (x2 : (List Int)) : AS := ⟨[(0, .a (.sl 0)), (1, .a (.sl 1)), (5, .a (.v (.int .i64 x0)))], [(0, some ⟨false, .arr (.one (.i .i64)) x1⟩), (1, some ⟨false, .arr (.one (.i .i64)) x2⟩)], 2⟩
noncomputable def l_sl00Same (r : Bool) : List A := [.v (.bool r)]
theorem f_sl00Same_step4 (x0 : Int) (x1 : (List Int)) (x2 : (List Int)) (r : List A) (h : (cond (decide (x0 < ((List.length x1 : Nat) : Int))) (cond (inB x0 (List.length x1)) (cond (inB x0 (List.length x2)) (cond ((List.getD x1 (Int.toNat x0) 0) != (List.getD x2 (Int.toNat x0) 0)) (some [.v (.bool false)]) (f_sl00Same_L r 4 (f_sl00Same_s4 (IntKind.wrap .i64 (x0 + 1)) x1 x2))) none) none) (some [.v (.bool true)])) = some r) : f_sl00Same_L r 4 (f_sl00Same_s4 x0 x1 x2) = some r :=
  step_of' h (by kernel_rfl)
noncomputable def f_sl00Same_n4 (x0 : Int) (x1 : (List Int)) (x2 : (List Int)) : Option ((Int × (List Int) × (List Int)) ⊕ Bool) := (cond (decide (x0 < ((List.length x1 : Nat) : Int))) (cond (inB x0 (List.length x1)) (cond (inB x0 (List.length x2)) (cond ((List.getD x1 (Int.toNat x0) 0) != (List.getD x2 (Int.toNat x0) 0)) (some (Sum.inr false)) (some (Sum.inl ((IntKind.wrap .i64 (x0 + 1)), x1, x2)))) none) none) (some (Sum.inr true)))
noncomputable def f_sl00Same_run4 (x : (Int × (List Int) × (List Int))) : Option Bool := iter (fun x => f_sl00Same_n4 x.1 x.2.1 x.2.2) FU x
noncomputable def f_sl00Same_G4 (r : List A) (x : (Int × (List Int) × (List Int))) : Prop := f_sl00Same_L r 4 (f_sl00Same_s4 x.1 x.2.1 x.2.2) = some r
noncomputable def f_sl00Same_S4 (r : List A) : Bool → Prop := fun v => r = l_sl00Same v
theorem f_sl00Same_go4 (r : List A) : ∀ x, sem (f_sl00Same_S4 r) (f_sl00Same_run4 x) → f_sl00Same_G4 r x :=
  fun x => iter_sound (step := fun x => f_sl00Same_n4 x.1 x.2.1 x.2.2) (fun x h => by
    unfold f_sl00Same_n4 at h
    exact f_sl00Same_step4 x.1 x.2.1 x.2.2 r ((sem_cond h (fun h => (sem_cond h (fun h => (sem_cond h (fun h => (sem_cond h (fun h => sem_got h fun q => some_eq q) (fun h => sem_got h fun q => q))) (fun h => sem_none h))) (fun h => sem_none h))) (fun h => sem_got h fun q => some_eq q)))) FU x
noncomputable def s_sl00Same (a0 : (List Int)) (a1 : (List Int)) : Option Bool := (cond (((List.length a0 : Nat) : Int) != ((List.length a1 : Nat) : Int)) (some false) (f_sl00Same_run4 (0, a0, a1)))
theorem f_sl00Same_top (a0 : (List Int)) (a1 : (List Int)) (r : List A) : ev f_sl00Same_X (lpc (cnOf f_sl00Same_LV) (f_sl00Same_L r)) f_sl00Same_c (K0 TT f_sl00Same_rv) (enter [.lst (.one (.i .i64)) a0, .lst (.one (.i .i64)) a1]) = (cond (((List.length a0 : Nat) : Int) != ((List.length a1 : Nat) : Int)) (some [.v (.bool false)]) (f_sl00Same_L r 4 (f_sl00Same_s4 0 a0 a1))) := by kernel_rfl
theorem s_sl00Same_ok (a0 : (List Int)) (a1 : (List Int)) (v : Bool) (h : s_sl00Same a0 a1 = some v) : (cond (((List.length a0 : Nat) : Int) != ((List.length a1 : Nat) : Int)) (some [.v (.bool false)]) (f_sl00Same_L (l_sl00Same v) 4 (f_sl00Same_s4 0 a0 a1))) = some (l_sl00Same v) := by
  unfold s_sl00Same at h
  have go : ∀ r, sem (fun v => r = l_sl00Same v) ((cond (((List.length a0 : Nat) : Int) != ((List.length a1 : Nat) : Int)) (some false) (f_sl00Same_run4 (0, a0, a1)))) → (cond (((List.length a0 : Nat) : Int) != ((List.length a1 : Nat) : Int)) (some [.v (.bool false)]) (f_sl00Same_L r 4 (f_sl00Same_s4 0 a0 a1))) = some r := fun r h => (sem_cond h (fun h => sem_got h fun q => some_eq q) (fun h => f_sl00Same_go4 r _ h))
  exact go (l_sl00Same v) ⟨v, h, rfl⟩
noncomputable def c_sl00Same : List A → ACall
  | [.lst (.one (.i .i64)) a0, .lst (.one (.i .i64)) a1] => ⟨Bool, s_sl00Same a0 a1, fun r => .one (.v (.bool r))⟩
  | _ => ACall.fail
theorem f_sl00Same_sound : Sound Try.prog 136 c_sl00Same := by
  refine sound_good f_sl00Same_ctx f_sl00Same_LV 2 Try.func136 (c := f_sl00Same_c) (by kernel_rfl) (rv := f_sl00Same_rv) (by kernel_rfl) (by kernel_rfl) (by kernel_rfl) (by kernel_rfl) fun rs => ?_
  unfold c_sl00Same
  split
  · rename_i a0 a1; intro v h; exact ⟨rfl, l_sl00Same v, rfl, (f_sl00Same_top a0 a1 _).trans (s_sl00Same_ok a0 a1 v h)⟩
  · intro v h; cases h

/-! ### function 61: loop.example/g01322/spec.SameNumbers -/
noncomputable def f_sSameNumbers_c : Code := match Try.f61.body with | some c => c | none => .skip
noncomputable def f_sSameNumbers_X : Ctx := ⟨TT, phiOf [(136, c_sl00Same)], noPsi, noXi⟩
def f_sSameNumbers_LV : List (Nat × Keep) := []
def f_sSameNumbers_rv : List ResultVar := [.tmp 4]
noncomputable def f_sSameNumbers_L (r : List A) : Nat → AS → Option (List A) := L f_sSameNumbers_X (cnOf f_sSameNumbers_LV) f_sSameNumbers_c (K0 TT f_sSameNumbers_rv) r
theorem f_sSameNumbers_ctx : CtxOK Try.prog f_sSameNumbers_X := ctx_of tab mix ⟨⟨Try.call136, f_sl00Same_sound⟩, trivial⟩
noncomputable def s_sSameNumbers (a0 : (List Int)) (a1 : (List Int)) : Option Bool := (Option.bind (s_sl00Same a0 a1) fun r1 => (some r1))
theorem f_sSameNumbers_top (a0 : (List Int)) (a1 : (List Int)) (r : List A) : ev f_sSameNumbers_X (lpc (cnOf f_sSameNumbers_LV) (f_sSameNumbers_L r)) f_sSameNumbers_c (K0 TT f_sSameNumbers_rv) (enter [.lst (.one (.i .i64)) a0, .lst (.one (.i .i64)) a1]) = (Option.bind (s_sl00Same a0 a1) fun r1 => (some [.v (.bool r1)])) := by kernel_rfl
noncomputable def l_sSameNumbers (r : Bool) : List A := [.v (.bool r)]
theorem s_sSameNumbers_ok (a0 : (List Int)) (a1 : (List Int)) (v : Bool) (h : s_sSameNumbers a0 a1 = some v) : (Option.bind (s_sl00Same a0 a1) fun r1 => (some [.v (.bool r1)])) = some (l_sSameNumbers v) := by
  have e : (Option.bind (s_sl00Same a0 a1) fun r1 => (some [.v (.bool r1)])) = Option.map l_sSameNumbers (s_sSameNumbers a0 a1) := by
    unfold s_sSameNumbers
    exact (bind_app fun _ => rfl)
  rw [e, h]; rfl
noncomputable def c_sSameNumbers : List A → ACall
  | [.lst (.one (.i .i64)) a0, .lst (.one (.i .i64)) a1] => ⟨Bool, s_sSameNumbers a0 a1, fun r => .one (.v (.bool r))⟩
  | _ => ACall.fail
theorem f_sSameNumbers_sound : Sound Try.prog 61 c_sSameNumbers := by
  refine sound_good f_sSameNumbers_ctx f_sSameNumbers_LV 2 Try.func61 (c := f_sSameNumbers_c) (by kernel_rfl) (rv := f_sSameNumbers_rv) (by kernel_rfl) (by kernel_rfl) (by kernel_rfl) (by kernel_rfl) fun rs => ?_
  unfold c_sSameNumbers
  split
  · rename_i a0 a1; intro v h; exact ⟨rfl, l_sSameNumbers v, rfl, (f_sSameNumbers_top a0 a1 _).trans (s_sSameNumbers_ok a0 a1 v h)⟩
  · intro v h; cases h
end Go.RR
