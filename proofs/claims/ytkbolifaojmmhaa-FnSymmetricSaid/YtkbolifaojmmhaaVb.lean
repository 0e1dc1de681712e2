/- Pictures: losing cells, filling. -/
import Derived.Test.YtkbolifaojmmhaaVa
import Derived.Test.YtkbolifaojmmhaaRw
set_option linter.unusedVariables false
set_option linter.unusedSimpArgs false
set_option maxRecDepth 100000
namespace Go.RR
open Go Go.Proofs

/-! ### function 77: loop.example/g01322/laws.eqByteA144 -/
noncomputable def f_weqByteA144_c : Code := match Try.f77.body with | some c => c | none => .skip
noncomputable def f_weqByteA144_X : Ctx := ⟨TT, phiOf [], noPsi, noXi⟩
def f_weqByteA144_LV : List (Nat × Keep) := [(2, ([2, 3, 5], [], []))]
def f_weqByteA144_rv : List ResultVar := [.tmp 4]
noncomputable def f_weqByteA144_L (r : List A) : Nat → AS → Option (List A) := L f_weqByteA144_X (cnOf f_weqByteA144_LV) f_weqByteA144_c (K0 TT f_weqByteA144_rv) r
theorem f_weqByteA144_ctx : CtxOK Try.prog f_weqByteA144_X := ctx_of tab mix trivial
noncomputable def f_weqByteA144_s2 (x0 : Int) (x1 : (Nat → Int)) (x2 : (Nat → Int)) : AS := ⟨[(2, .a (.ptr 0 [] (0))), (3, .a (.ptr 1 [] (0))), (5, .a (.v (.int .i64 x0)))], [(0, some ⟨true, .box (.fa 144 .u8 x1)⟩), (1, some ⟨true, .box (.fa 144 .u8 x2)⟩)], 2⟩
noncomputable def l_weqByteA144 (r : Bool) : List A := [.v (.bool r)]
theorem f_weqByteA144_step2 (x0 : Int) (x1 : (Nat → Int)) (x2 : (Nat → Int)) (r : List A) (h : (cond (decide (x0 < 144)) (cond (inB x0 144) (cond (inB x0 144) (cond ((x1 (Int.toNat x0)) != (x2 (Int.toNat x0))) (some [.v (.bool false)]) (f_weqByteA144_L r 2 (f_weqByteA144_s2 (IntKind.wrap .i64 (x0 + 1)) x1 x2))) none) none) (some [.v (.bool true)])) = some r) : f_weqByteA144_L r 2 (f_weqByteA144_s2 x0 x1 x2) = some r :=
  step_of' h (by kernel_rfl)
noncomputable def f_weqByteA144_n2 (x0 : Int) (x1 : (Nat → Int)) (x2 : (Nat → Int)) : Option ((Int × (Nat → Int) × (Nat → Int)) ⊕ Bool) := (cond (decide (x0 < 144)) (cond (inB x0 144) (cond (inB x0 144) (cond ((x1 (Int.toNat x0)) != (x2 (Int.toNat x0))) (some (Sum.inr false)) (some (Sum.inl ((IntKind.wrap .i64 (x0 + 1)), x1, x2)))) none) none) (some (Sum.inr true)))
noncomputable def f_weqByteA144_run2 (x : (Int × (Nat → Int) × (Nat → Int))) : Option Bool := iter (fun x => f_weqByteA144_n2 x.1 x.2.1 x.2.2) FU x
noncomputable def f_weqByteA144_G2 (r : List A) (x : (Int × (Nat → Int) × (Nat → Int))) : Prop := f_weqByteA144_L r 2 (f_weqByteA144_s2 x.1 x.2.1 x.2.2) = some r
noncomputable def f_weqByteA144_S2 (r : List A) : Bool → Prop := fun v => r = l_weqByteA144 v
theorem f_weqByteA144_go2 (r : List A) : ∀ x, sem (f_weqByteA144_S2 r) (f_weqByteA144_run2 x) → f_weqByteA144_G2 r x :=
  fun x => iter_sound (step := fun x => f_weqByteA144_n2 x.1 x.2.1 x.2.2) (fun x h => by
    unfold f_weqByteA144_n2 at h
    exact f_weqByteA144_step2 x.1 x.2.1 x.2.2 r ((sem_cond h (fun h => (sem_cond h (fun h => (sem_cond h (fun h => (sem_cond h (fun h => sem_got h fun q => some_eq q) (fun h => sem_got h fun q => q))) (fun h => sem_none h))) (fun h => sem_none h))) (fun h => sem_got h fun q => some_eq q)))) FU x
noncomputable def s_weqByteA144 (a0 : (Nat → Int)) (a1 : (Nat → Int)) : Option Bool := (f_weqByteA144_run2 (0, a0, a1))
theorem f_weqByteA144_top (a0 : (Nat → Int)) (a1 : (Nat → Int)) (r : List A) : ev f_weqByteA144_X (lpc (cnOf f_weqByteA144_LV) (f_weqByteA144_L r)) f_weqByteA144_c (K0 TT f_weqByteA144_rv) (enter [.fa 144 .u8 a0, .fa 144 .u8 a1]) = (f_weqByteA144_L r 2 (f_weqByteA144_s2 0 a0 a1)) := by kernel_rfl
theorem s_weqByteA144_ok (a0 : (Nat → Int)) (a1 : (Nat → Int)) (v : Bool) (h : s_weqByteA144 a0 a1 = some v) : (f_weqByteA144_L (l_weqByteA144 v) 2 (f_weqByteA144_s2 0 a0 a1)) = some (l_weqByteA144 v) := by
  unfold s_weqByteA144 at h
  have go : ∀ r, sem (fun v => r = l_weqByteA144 v) ((f_weqByteA144_run2 (0, a0, a1))) → (f_weqByteA144_L r 2 (f_weqByteA144_s2 0 a0 a1)) = some r := fun r h => f_weqByteA144_go2 r _ h
  exact go (l_weqByteA144 v) ⟨v, h, rfl⟩
noncomputable def c_weqByteA144 : List A → ACall
  | [.fa 144 .u8 a0, .fa 144 .u8 a1] => ⟨Bool, s_weqByteA144 a0 a1, fun r => .one (.v (.bool r))⟩
  | _ => ACall.fail
theorem f_weqByteA144_sound : Sound Try.prog 77 c_weqByteA144 := by
  refine sound_good f_weqByteA144_ctx f_weqByteA144_LV 2 Try.func77 (c := f_weqByteA144_c) (by kernel_rfl) (rv := f_weqByteA144_rv) (by kernel_rfl) (by kernel_rfl) (by kernel_rfl) (by kernel_rfl) fun rs => ?_
  unfold c_weqByteA144
  split
  · rename_i a0 a1; intro v h; exact ⟨rfl, l_weqByteA144 v, rfl, (f_weqByteA144_top a0 a1 _).trans (s_weqByteA144_ok a0 a1 v h)⟩
  · intro v h; cases h

/-! ### function 18: loop.example/g01322/laws.eqPicture -/
noncomputable def f_weqPicture_c : Code := match Try.f18.body with | some c => c | none => .skip
noncomputable def f_weqPicture_X : Ctx := ⟨TT, phiOf [(77, c_weqByteA144)], noPsi, noXi⟩
def f_weqPicture_LV : List (Nat × Keep) := []
def f_weqPicture_rv : List ResultVar := [.tmp 4]
noncomputable def f_weqPicture_L (r : List A) : Nat → AS → Option (List A) := L f_weqPicture_X (cnOf f_weqPicture_LV) f_weqPicture_c (K0 TT f_weqPicture_rv) r
theorem f_weqPicture_ctx : CtxOK Try.prog f_weqPicture_X := ctx_of tab mix ⟨⟨Try.call77, f_weqByteA144_sound⟩, trivial⟩
noncomputable def s_weqPicture (a0 : Int) (a1 : Int) (a2 : (Nat → Int)) (a3 : Int) (a4 : Int) (a5 : (Nat → Int)) : Option Bool := (cond (a0 != a3) (some false) (cond (a1 != a4) (some false) (Option.bind (s_weqByteA144 a2 a5) fun r1 => (cond (!r1) (some false) (some true)))))
theorem f_weqPicture_top (a0 : Int) (a1 : Int) (a2 : (Nat → Int)) (a3 : Int) (a4 : Int) (a5 : (Nat → Int)) (r : List A) : ev f_weqPicture_X (lpc (cnOf f_weqPicture_LV) (f_weqPicture_L r)) f_weqPicture_c (K0 TT f_weqPicture_rv) (enter [.rc [.v (.int .i8 a0), .v (.int .i8 a1), .fa 144 .u8 a2], .rc [.v (.int .i8 a3), .v (.int .i8 a4), .fa 144 .u8 a5]]) = (cond (a0 != a3) (some [.v (.bool false)]) (cond (a1 != a4) (some [.v (.bool false)]) (Option.bind (s_weqByteA144 a2 a5) fun r1 => (cond (!r1) (some [.v (.bool false)]) (some [.v (.bool true)]))))) := by kernel_rfl
noncomputable def l_weqPicture (r : Bool) : List A := [.v (.bool r)]
theorem s_weqPicture_ok (a0 : Int) (a1 : Int) (a2 : (Nat → Int)) (a3 : Int) (a4 : Int) (a5 : (Nat → Int)) (v : Bool) (h : s_weqPicture a0 a1 a2 a3 a4 a5 = some v) : (cond (a0 != a3) (some [.v (.bool false)]) (cond (a1 != a4) (some [.v (.bool false)]) (Option.bind (s_weqByteA144 a2 a5) fun r1 => (cond (!r1) (some [.v (.bool false)]) (some [.v (.bool true)]))))) = some (l_weqPicture v) := by
  have e : (cond (a0 != a3) (some [.v (.bool false)]) (cond (a1 != a4) (some [.v (.bool false)]) (Option.bind (s_weqByteA144 a2 a5) fun r1 => (cond (!r1) (some [.v (.bool false)]) (some [.v (.bool true)]))))) = Option.map l_weqPicture (s_weqPicture a0 a1 a2 a3 a4 a5) := by
    unfold s_weqPicture
    exact (cond_app (Option.map l_weqPicture) rfl (cond_app (Option.map l_weqPicture) rfl (bind_app fun _ => (cond_app (Option.map l_weqPicture) rfl rfl))))
  rw [e, h]; rfl
noncomputable def c_weqPicture : List A → ACall
  | [.rc [.v (.int .i8 a0), .v (.int .i8 a1), .fa 144 .u8 a2], .rc [.v (.int .i8 a3), .v (.int .i8 a4), .fa 144 .u8 a5]] => ⟨Bool, s_weqPicture a0 a1 a2 a3 a4 a5, fun r => .one (.v (.bool r))⟩
  | _ => ACall.fail
theorem f_weqPicture_sound : Sound Try.prog 18 c_weqPicture := by
  refine sound_good f_weqPicture_ctx f_weqPicture_LV 2 Try.func18 (c := f_weqPicture_c) (by kernel_rfl) (rv := f_weqPicture_rv) (by kernel_rfl) (by kernel_rfl) (by kernel_rfl) (by kernel_rfl) fun rs => ?_
  unfold c_weqPicture
  split
  · rename_i a0 a1 a2 a3 a4 a5; intro v h; exact ⟨rfl, l_weqPicture v, rfl, (f_weqPicture_top a0 a1 a2 a3 a4 a5 _).trans (s_weqPicture_ok a0 a1 a2 a3 a4 a5 v h)⟩
  · intro v h; cases h

/-! ### function 16: loop.example/g01322/laws.toPicture -/
noncomputable def f_wtoPicture_c : Code := match Try.f16.body with | some c => c | none => .skip
noncomputable def f_wtoPicture_X : Ctx := ⟨TT, phiOf [(72, c_wtoByteA144)], noPsi, noXi⟩
def f_wtoPicture_LV : List (Nat × Keep) := []
def f_wtoPicture_rv : List ResultVar := [.cell 2 26]
noncomputable def f_wtoPicture_L (r : List A) : Nat → AS → Option (List A) := L f_wtoPicture_X (cnOf f_wtoPicture_LV) f_wtoPicture_c (K0 TT f_wtoPicture_rv) r
theorem f_wtoPicture_ctx : CtxOK Try.prog f_wtoPicture_X := ctx_of tab mix ⟨⟨Try.call72, f_wtoByteA144_sound⟩, trivial⟩
noncomputable def s_wtoPicture (a0 : Int) (a1 : Int) (a2 : (Nat → Int)) : (Int × Int × (Nat → Int)) := (a0, a1, (s_wtoByteA144 a2))
theorem f_wtoPicture_top (a0 : Int) (a1 : Int) (a2 : (Nat → Int)) (r : List A) : ev f_wtoPicture_X (lpc (cnOf f_wtoPicture_LV) (f_wtoPicture_L r)) f_wtoPicture_c (K0 TT f_wtoPicture_rv) (enter [.rc [.v (.int .i8 a0), .v (.int .i8 a1), .fa 144 .u8 a2]]) = (some [.rc [.v (.int .i8 a0), .v (.int .i8 a1), .fa 144 .u8 (s_wtoByteA144 a2)]]) := by kernel_rfl
noncomputable def l_wtoPicture (r : (Int × Int × (Nat → Int))) : List A := [.rc [.v (.int .i8 r.1), .v (.int .i8 r.2.1), .fa 144 .u8 r.2.2]]
theorem s_wtoPicture_ok (a0 : Int) (a1 : Int) (a2 : (Nat → Int)) : (some [.rc [.v (.int .i8 a0), .v (.int .i8 a1), .fa 144 .u8 (s_wtoByteA144 a2)]]) = some (l_wtoPicture (s_wtoPicture a0 a1 a2)) := by
  unfold s_wtoPicture
  exact rfl
noncomputable def c_wtoPicture : List A → ACall
  | [.rc [.v (.int .i8 a0), .v (.int .i8 a1), .fa 144 .u8 a2]] => ⟨(Int × Int × (Nat → Int)), some (s_wtoPicture a0 a1 a2), fun r => .one (.rc [.v (.int .i8 r.1), .v (.int .i8 r.2.1), .fa 144 .u8 r.2.2])⟩
  | _ => ACall.fail
theorem f_wtoPicture_sound : Sound Try.prog 16 c_wtoPicture := by
  refine sound_good f_wtoPicture_ctx f_wtoPicture_LV 1 Try.func16 (c := f_wtoPicture_c) (by kernel_rfl) (rv := f_wtoPicture_rv) (by kernel_rfl) (by kernel_rfl) (by kernel_rfl) (by kernel_rfl) fun rs => ?_
  unfold c_wtoPicture
  split
  · rename_i a0 a1 a2; intro v h; cases h; exact ⟨rfl, l_wtoPicture (s_wtoPicture a0 a1 a2), rfl, (f_wtoPicture_top a0 a1 a2 _).trans (s_wtoPicture_ok a0 a1 a2)⟩
  · intro v h; cases h

/-! ### function 132: loop.example/g01322/impl.isKind -/
noncomputable def f_iisKind_c : Code := match Try.f132.body with | some c => c | none => .skip
noncomputable def f_iisKind_X : Ctx := ⟨TT, phiOf [(75, c_iwithin)], noPsi, noXi⟩
def f_iisKind_LV : List (Nat × Keep) := []
def f_iisKind_rv : List ResultVar := [.tmp 2]
noncomputable def f_iisKind_L (r : List A) : Nat → AS → Option (List A) := L f_iisKind_X (cnOf f_iisKind_LV) f_iisKind_c (K0 TT f_iisKind_rv) r
theorem f_iisKind_ctx : CtxOK Try.prog f_iisKind_X := ctx_of tab mix ⟨⟨Try.call75, f_iwithin_sound⟩, trivial⟩
noncomputable def s_iisKind (a0 : Int) : Bool := (s_iwithin a0 0 2)
theorem f_iisKind_top (a0 : Int) (r : List A) : ev f_iisKind_X (lpc (cnOf f_iisKind_LV) (f_iisKind_L r)) f_iisKind_c (K0 TT f_iisKind_rv) (enter [.v (.int .i64 a0)]) = (some [.v (.bool (s_iwithin a0 0 2))]) := by kernel_rfl
noncomputable def l_iisKind (r : Bool) : List A := [.v (.bool r)]
theorem s_iisKind_ok (a0 : Int) : (some [.v (.bool (s_iwithin a0 0 2))]) = some (l_iisKind (s_iisKind a0)) := by
  unfold s_iisKind
  exact rfl
noncomputable def c_iisKind : List A → ACall
  | [.v (.int .i64 a0)] => ⟨Bool, some (s_iisKind a0), fun r => .one (.v (.bool r))⟩
  | _ => ACall.fail
theorem f_iisKind_sound : Sound Try.prog 132 c_iisKind := by
  refine sound_good f_iisKind_ctx f_iisKind_LV 1 Try.func132 (c := f_iisKind_c) (by kernel_rfl) (rv := f_iisKind_rv) (by kernel_rfl) (by kernel_rfl) (by kernel_rfl) (by kernel_rfl) fun rs => ?_
  unfold c_iisKind
  split
  · rename_i a0; intro v h; cases h; exact ⟨rfl, l_iisKind (s_iisKind a0), rfl, (f_iisKind_top a0 _).trans (s_iisKind_ok a0)⟩
  · intro v h; cases h

/-! ### function 167: (loop.example/g01322/impl.Image).cells -/
noncomputable def f_iImage_cells_c : Code := match Try.f167.body with | some c => c | none => .skip
noncomputable def f_iImage_cells_X : Ctx := ⟨TT, phiOf [(169, c_iisCell)], noPsi, noXi⟩
def f_iImage_cells_LV : List (Nat × Keep) := [(3, ([1, 3, 6], [], []))]
def f_iImage_cells_rv : List ResultVar := [.tmp 2]
noncomputable def f_iImage_cells_L (r : List A) : Nat → AS → Option (List A) := L f_iImage_cells_X (cnOf f_iImage_cells_LV) f_iImage_cells_c (K0 TT f_iImage_cells_rv) r
theorem f_iImage_cells_ctx : CtxOK Try.prog f_iImage_cells_X := ctx_of tab mix ⟨⟨Try.call169, f_iisCell_sound⟩, trivial⟩
noncomputable def f_iImage_cells_s3 (x0 : Int) (x1 : Int) (x2 : Int) (x3 : (Nat → Nat → Int)) (x4 : (List Int)) : AS := ⟨[(1, .a (.ptr 0 [] (0))), (3, .a (.sl 1)), (6, .a (.v (.int .i64 x0)))], [(0, some ⟨true, .box (.rc [.v (.int .i8 x1), .v (.int .i8 x2), .fa2 144 3 .u8 x3])⟩), (1, some ⟨true, .arr (.one (.i .i64)) x4⟩)], 2⟩
noncomputable def l_iImage_cells (r : (List Int)) : List A := [.lst (.one (.i .i64)) r]
theorem f_iImage_cells_step3 (x0 : Int) (x1 : Int) (x2 : Int) (x3 : (Nat → Nat → Int)) (x4 : (List Int)) (r : List A) (h : (cond (decide (x0 < 144)) (cond (s_iisCell (Int.tmod x0 12) (IntKind.wrap .i64 (Int.tdiv x0 12)) x1 x2) (cond (fits ((List.length (x4 : List Int) + List.length ([x0] : List Int)) * 8)) (f_iImage_cells_L r 3 (f_iImage_cells_s3 (IntKind.wrap .i64 (x0 + 1)) x1 x2 x3 (x4 ++ [x0]))) none) (f_iImage_cells_L r 3 (f_iImage_cells_s3 (IntKind.wrap .i64 (x0 + 1)) x1 x2 x3 x4))) (some [.lst (.one (.i .i64)) x4])) = some r) : f_iImage_cells_L r 3 (f_iImage_cells_s3 x0 x1 x2 x3 x4) = some r :=
  step_of' h (by kernel_rfl)
noncomputable def f_iImage_cells_n3 (x0 : Int) (x1 : Int) (x2 : Int) (x3 : (Nat → Nat → Int)) (x4 : (List Int)) : Option ((Int × Int × Int × (Nat → Nat → Int) × (List Int)) ⊕ (List Int)) := (cond (decide (x0 < 144)) (cond (s_iisCell (Int.tmod x0 12) (IntKind.wrap .i64 (Int.tdiv x0 12)) x1 x2) (cond (fits ((List.length (x4 : List Int) + List.length ([x0] : List Int)) * 8)) (some (Sum.inl ((IntKind.wrap .i64 (x0 + 1)), x1, x2, x3, (x4 ++ [x0])))) none) (some (Sum.inl ((IntKind.wrap .i64 (x0 + 1)), x1, x2, x3, x4)))) (some (Sum.inr x4)))
noncomputable def f_iImage_cells_run3 (x : (Int × Int × Int × (Nat → Nat → Int) × (List Int))) : Option (List Int) := iter (fun x => f_iImage_cells_n3 x.1 x.2.1 x.2.2.1 x.2.2.2.1 x.2.2.2.2) FU x
noncomputable def f_iImage_cells_G3 (r : List A) (x : (Int × Int × Int × (Nat → Nat → Int) × (List Int))) : Prop := f_iImage_cells_L r 3 (f_iImage_cells_s3 x.1 x.2.1 x.2.2.1 x.2.2.2.1 x.2.2.2.2) = some r
noncomputable def f_iImage_cells_S3 (r : List A) : (List Int) → Prop := fun v => r = l_iImage_cells v
theorem f_iImage_cells_go3 (r : List A) : ∀ x, sem (f_iImage_cells_S3 r) (f_iImage_cells_run3 x) → f_iImage_cells_G3 r x :=
  fun x => iter_sound (step := fun x => f_iImage_cells_n3 x.1 x.2.1 x.2.2.1 x.2.2.2.1 x.2.2.2.2) (fun x h => by
    unfold f_iImage_cells_n3 at h
    exact f_iImage_cells_step3 x.1 x.2.1 x.2.2.1 x.2.2.2.1 x.2.2.2.2 r ((sem_cond h (fun h => (sem_cond h (fun h => (sem_cond h (fun h => sem_got h fun q => q) (fun h => sem_none h))) (fun h => sem_got h fun q => q))) (fun h => sem_got h fun q => some_eq q)))) FU x
noncomputable def s_iImage_cells (a0 : Int) (a1 : Int) (a2 : (Nat → Nat → Int)) : Option (List Int) := (f_iImage_cells_run3 (0, a0, a1, a2, []))
theorem f_iImage_cells_top (a0 : Int) (a1 : Int) (a2 : (Nat → Nat → Int)) (r : List A) : ev f_iImage_cells_X (lpc (cnOf f_iImage_cells_LV) (f_iImage_cells_L r)) f_iImage_cells_c (K0 TT f_iImage_cells_rv) (enter [.rc [.v (.int .i8 a0), .v (.int .i8 a1), .fa2 144 3 .u8 a2]]) = (f_iImage_cells_L r 3 (f_iImage_cells_s3 0 a0 a1 a2 [])) := by kernel_rfl
theorem s_iImage_cells_ok (a0 : Int) (a1 : Int) (a2 : (Nat → Nat → Int)) (v : (List Int)) (h : s_iImage_cells a0 a1 a2 = some v) : (f_iImage_cells_L (l_iImage_cells v) 3 (f_iImage_cells_s3 0 a0 a1 a2 [])) = some (l_iImage_cells v) := by
  unfold s_iImage_cells at h
  have go : ∀ r, sem (fun v => r = l_iImage_cells v) ((f_iImage_cells_run3 (0, a0, a1, a2, []))) → (f_iImage_cells_L r 3 (f_iImage_cells_s3 0 a0 a1 a2 [])) = some r := fun r h => f_iImage_cells_go3 r _ h
  exact go (l_iImage_cells v) ⟨v, h, rfl⟩
noncomputable def c_iImage_cells : List A → ACall
  | [.rc [.v (.int .i8 a0), .v (.int .i8 a1), .fa2 144 3 .u8 a2]] => ⟨(List Int), s_iImage_cells a0 a1 a2, fun r => .one (.lst (.one (.i .i64)) r)⟩
  | _ => ACall.fail
theorem f_iImage_cells_sound : Sound Try.prog 167 c_iImage_cells := by
  refine sound_good f_iImage_cells_ctx f_iImage_cells_LV 1 Try.func167 (c := f_iImage_cells_c) (by kernel_rfl) (rv := f_iImage_cells_rv) (by kernel_rfl) (by kernel_rfl) (by kernel_rfl) (by kernel_rfl) fun rs => ?_
  unfold c_iImage_cells
  split
  · rename_i a0 a1 a2; intro v h; exact ⟨rfl, l_iImage_cells v, rfl, (f_iImage_cells_top a0 a1 a2 _).trans (s_iImage_cells_ok a0 a1 a2 v h)⟩
  · intro v h; cases h

/-! ### function 127: (loop.example/g01322/impl.Picture).numbers -/
noncomputable def f_iPicture_numbers_c : Code := match Try.f127.body with | some c => c | none => .skip
noncomputable def f_iPicture_numbers_X : Ctx := ⟨TT, phiOf [(167, c_iImage_cells)], noPsi, noXi⟩
def f_iPicture_numbers_LV : List (Nat × Keep) := []
def f_iPicture_numbers_rv : List ResultVar := [.tmp 2]
noncomputable def f_iPicture_numbers_L (r : List A) : Nat → AS → Option (List A) := L f_iPicture_numbers_X (cnOf f_iPicture_numbers_LV) f_iPicture_numbers_c (K0 TT f_iPicture_numbers_rv) r
theorem f_iPicture_numbers_ctx : CtxOK Try.prog f_iPicture_numbers_X := ctx_of tab mix ⟨⟨Try.call167, f_iImage_cells_sound⟩, trivial⟩
noncomputable def s_iPicture_numbers (a0 : Int) (a1 : Int) (a2 : (Nat → Int)) : Option (List Int) := (Option.bind (s_iImage_cells a0 a1 zF2) fun r1 => (some r1))
theorem f_iPicture_numbers_top (a0 : Int) (a1 : Int) (a2 : (Nat → Int)) (r : List A) : ev f_iPicture_numbers_X (lpc (cnOf f_iPicture_numbers_LV) (f_iPicture_numbers_L r)) f_iPicture_numbers_c (K0 TT f_iPicture_numbers_rv) (enter [.rc [.v (.int .i8 a0), .v (.int .i8 a1), .fa 144 .u8 a2]]) = (Option.bind (s_iImage_cells a0 a1 zF2) fun r1 => (some [.lst (.one (.i .i64)) r1])) := by kernel_rfl
noncomputable def l_iPicture_numbers (r : (List Int)) : List A := [.lst (.one (.i .i64)) r]
theorem s_iPicture_numbers_ok (a0 : Int) (a1 : Int) (a2 : (Nat → Int)) (v : (List Int)) (h : s_iPicture_numbers a0 a1 a2 = some v) : (Option.bind (s_iImage_cells a0 a1 zF2) fun r1 => (some [.lst (.one (.i .i64)) r1])) = some (l_iPicture_numbers v) := by
  have e : (Option.bind (s_iImage_cells a0 a1 zF2) fun r1 => (some [.lst (.one (.i .i64)) r1])) = Option.map l_iPicture_numbers (s_iPicture_numbers a0 a1 a2) := by
    unfold s_iPicture_numbers
    exact (bind_app fun _ => rfl)
  rw [e, h]; rfl
noncomputable def c_iPicture_numbers : List A → ACall
  | [.rc [.v (.int .i8 a0), .v (.int .i8 a1), .fa 144 .u8 a2]] => ⟨(List Int), s_iPicture_numbers a0 a1 a2, fun r => .one (.lst (.one (.i .i64)) r)⟩
  | _ => ACall.fail
theorem f_iPicture_numbers_sound : Sound Try.prog 127 c_iPicture_numbers := by
  refine sound_good f_iPicture_numbers_ctx f_iPicture_numbers_LV 1 Try.func127 (c := f_iPicture_numbers_c) (by kernel_rfl) (rv := f_iPicture_numbers_rv) (by kernel_rfl) (by kernel_rfl) (by kernel_rfl) (by kernel_rfl) fun rs => ?_
  unfold c_iPicture_numbers
  split
  · rename_i a0 a1 a2; intro v h; exact ⟨rfl, l_iPicture_numbers v, rfl, (f_iPicture_numbers_top a0 a1 a2 _).trans (s_iPicture_numbers_ok a0 a1 a2 v h)⟩
  · intro v h; cases h

/-! ### function 135: (loop.example/g01322/impl.Picture).partner -/
noncomputable def f_iPicture_partner_c : Code := match Try.f135.body with | some c => c | none => .skip
noncomputable def f_iPicture_partner_X : Ctx := ⟨TT, phiOf [], noPsi, noXi⟩
def f_iPicture_partner_LV : List (Nat × Keep) := []
def f_iPicture_partner_rv : List ResultVar := [.tmp 6]
noncomputable def f_iPicture_partner_L (r : List A) : Nat → AS → Option (List A) := L f_iPicture_partner_X (cnOf f_iPicture_partner_LV) f_iPicture_partner_c (K0 TT f_iPicture_partner_rv) r
theorem f_iPicture_partner_ctx : CtxOK Try.prog f_iPicture_partner_X := ctx_of tab mix trivial
noncomputable def s_iPicture_partner (a0 : Int) (a1 : Int) (a2 : (Nat → Int)) (a3 : Int) (a4 : Int) : Int := (cond (a3 != 1) (cond (a3 != 0) (IntKind.wrap .i64 ((IntKind.wrap .i64 ((IntKind.wrap .i64 ((IntKind.wrap .i64 a0) - 1)) - (Int.tmod a4 12))) + (IntKind.wrap .i64 (12 * (IntKind.wrap .i64 ((IntKind.wrap .i64 ((IntKind.wrap .i64 a1) - 1)) - (IntKind.wrap .i64 (Int.tdiv a4 12)))))))) (IntKind.wrap .i64 ((IntKind.wrap .i64 ((IntKind.wrap .i64 ((IntKind.wrap .i64 a0) - 1)) - (Int.tmod a4 12))) + (IntKind.wrap .i64 (12 * (IntKind.wrap .i64 (Int.tdiv a4 12))))))) (cond (a3 != 0) (IntKind.wrap .i64 ((Int.tmod a4 12) + (IntKind.wrap .i64 (12 * (IntKind.wrap .i64 ((IntKind.wrap .i64 ((IntKind.wrap .i64 a1) - 1)) - (IntKind.wrap .i64 (Int.tdiv a4 12)))))))) (IntKind.wrap .i64 ((Int.tmod a4 12) + (IntKind.wrap .i64 (12 * (IntKind.wrap .i64 (Int.tdiv a4 12))))))))
theorem f_iPicture_partner_top (a0 : Int) (a1 : Int) (a2 : (Nat → Int)) (a3 : Int) (a4 : Int) (r : List A) : ev f_iPicture_partner_X (lpc (cnOf f_iPicture_partner_LV) (f_iPicture_partner_L r)) f_iPicture_partner_c (K0 TT f_iPicture_partner_rv) (enter [.rc [.v (.int .i8 a0), .v (.int .i8 a1), .fa 144 .u8 a2], .v (.int .i64 a3), .v (.int .i64 a4)]) = (cond (a3 != 1) (cond (a3 != 0) (some [.v (.int .i64 (IntKind.wrap .i64 ((IntKind.wrap .i64 ((IntKind.wrap .i64 ((IntKind.wrap .i64 a0) - 1)) - (Int.tmod a4 12))) + (IntKind.wrap .i64 (12 * (IntKind.wrap .i64 ((IntKind.wrap .i64 ((IntKind.wrap .i64 a1) - 1)) - (IntKind.wrap .i64 (Int.tdiv a4 12)))))))))]) (some [.v (.int .i64 (IntKind.wrap .i64 ((IntKind.wrap .i64 ((IntKind.wrap .i64 ((IntKind.wrap .i64 a0) - 1)) - (Int.tmod a4 12))) + (IntKind.wrap .i64 (12 * (IntKind.wrap .i64 (Int.tdiv a4 12)))))))])) (cond (a3 != 0) (some [.v (.int .i64 (IntKind.wrap .i64 ((Int.tmod a4 12) + (IntKind.wrap .i64 (12 * (IntKind.wrap .i64 ((IntKind.wrap .i64 ((IntKind.wrap .i64 a1) - 1)) - (IntKind.wrap .i64 (Int.tdiv a4 12)))))))))]) (some [.v (.int .i64 (IntKind.wrap .i64 ((Int.tmod a4 12) + (IntKind.wrap .i64 (12 * (IntKind.wrap .i64 (Int.tdiv a4 12)))))))]))) := by kernel_rfl
noncomputable def l_iPicture_partner (r : Int) : List A := [.v (.int .i64 r)]
theorem s_iPicture_partner_ok (a0 : Int) (a1 : Int) (a2 : (Nat → Int)) (a3 : Int) (a4 : Int) : (cond (a3 != 1) (cond (a3 != 0) (some [.v (.int .i64 (IntKind.wrap .i64 ((IntKind.wrap .i64 ((IntKind.wrap .i64 ((IntKind.wrap .i64 a0) - 1)) - (Int.tmod a4 12))) + (IntKind.wrap .i64 (12 * (IntKind.wrap .i64 ((IntKind.wrap .i64 ((IntKind.wrap .i64 a1) - 1)) - (IntKind.wrap .i64 (Int.tdiv a4 12)))))))))]) (some [.v (.int .i64 (IntKind.wrap .i64 ((IntKind.wrap .i64 ((IntKind.wrap .i64 ((IntKind.wrap .i64 a0) - 1)) - (Int.tmod a4 12))) + (IntKind.wrap .i64 (12 * (IntKind.wrap .i64 (Int.tdiv a4 12)))))))])) (cond (a3 != 0) (some [.v (.int .i64 (IntKind.wrap .i64 ((Int.tmod a4 12) + (IntKind.wrap .i64 (12 * (IntKind.wrap .i64 ((IntKind.wrap .i64 ((IntKind.wrap .i64 a1) - 1)) - (IntKind.wrap .i64 (Int.tdiv a4 12)))))))))]) (some [.v (.int .i64 (IntKind.wrap .i64 ((Int.tmod a4 12) + (IntKind.wrap .i64 (12 * (IntKind.wrap .i64 (Int.tdiv a4 12)))))))]))) = some (l_iPicture_partner (s_iPicture_partner a0 a1 a2 a3 a4)) := by
  unfold s_iPicture_partner
  exact (cond_app (fun x => some (l_iPicture_partner x)) (cond_app (fun x => some (l_iPicture_partner x)) rfl rfl) (cond_app (fun x => some (l_iPicture_partner x)) rfl rfl))
noncomputable def c_iPicture_partner : List A → ACall
  | [.rc [.v (.int .i8 a0), .v (.int .i8 a1), .fa 144 .u8 a2], .v (.int .i64 a3), .v (.int .i64 a4)] => ⟨Int, some (s_iPicture_partner a0 a1 a2 a3 a4), fun r => .one (.v (.int .i64 r))⟩
  | _ => ACall.fail
theorem f_iPicture_partner_sound : Sound Try.prog 135 c_iPicture_partner := by
  refine sound_good f_iPicture_partner_ctx f_iPicture_partner_LV 3 Try.func135 (c := f_iPicture_partner_c) (by kernel_rfl) (rv := f_iPicture_partner_rv) (by kernel_rfl) (by kernel_rfl) (by kernel_rfl) (by kernel_rfl) fun rs => ?_
  unfold c_iPicture_partner
  split
  · rename_i a0 a1 a2 a3 a4; intro v h; cases h; exact ⟨rfl, l_iPicture_partner (s_iPicture_partner a0 a1 a2 a3 a4), rfl, (f_iPicture_partner_top a0 a1 a2 a3 a4 _).trans (s_iPicture_partner_ok a0 a1 a2 a3 a4)⟩
  · intro v h; cases h

/-! ### function 134: loop.example/g01322/impl.FillByKind$1 -/
noncomputable def f_iFillByKind_1_c : Code := match Try.f134.body with | some c => c | none => .skip
noncomputable def f_iFillByKind_1_X : Ctx := ⟨TT, phiOf [(135, c_iPicture_partner)], noPsi, noXi⟩
def f_iFillByKind_1_LV : List (Nat × Keep) := []
def f_iFillByKind_1_rv : List ResultVar := [.tmp 4]
noncomputable def f_iFillByKind_1_L (r : List A) : Nat → AS → Option (List A) := L f_iFillByKind_1_X (cnOf f_iFillByKind_1_LV) f_iFillByKind_1_c (K0 TT f_iFillByKind_1_rv) r
theorem f_iFillByKind_1_ctx : CtxOK Try.prog f_iFillByKind_1_X := ctx_of tab mix ⟨⟨Try.call135, f_iPicture_partner_sound⟩, trivial⟩
noncomputable def s_iFillByKind_1 (a0 : Int) (a1 : Int) (a2 : Int) (a3 : (Nat → Int)) (a4 : Int) : Option Int := (cond (inB (s_iPicture_partner a1 a2 a3 a4 a0) 144) (some (a3 (Int.toNat (s_iPicture_partner a1 a2 a3 a4 a0)))) none)
theorem f_iFillByKind_1_top (a0 : Int) (a1 : Int) (a2 : Int) (a3 : (Nat → Int)) (a4 : Int) (r : List A) : ev f_iFillByKind_1_X (lpc (cnOf f_iFillByKind_1_LV) (f_iFillByKind_1_L r)) f_iFillByKind_1_c (K0 TT f_iFillByKind_1_rv) (enter [.v (.int .i64 a0), .ref (.rc [.v (.int .i8 a1), .v (.int .i8 a2), .fa 144 .u8 a3]), .ref (.v (.int .i64 a4))]) = (cond (inB (s_iPicture_partner a1 a2 a3 a4 a0) 144) (some [.v (.int .u8 (a3 (Int.toNat (s_iPicture_partner a1 a2 a3 a4 a0))))]) none) := by kernel_rfl
noncomputable def l_iFillByKind_1 (r : Int) : List A := [.v (.int .u8 r)]
theorem s_iFillByKind_1_ok (a0 : Int) (a1 : Int) (a2 : Int) (a3 : (Nat → Int)) (a4 : Int) (v : Int) (h : s_iFillByKind_1 a0 a1 a2 a3 a4 = some v) : (cond (inB (s_iPicture_partner a1 a2 a3 a4 a0) 144) (some [.v (.int .u8 (a3 (Int.toNat (s_iPicture_partner a1 a2 a3 a4 a0))))]) none) = some (l_iFillByKind_1 v) := by
  have e : (cond (inB (s_iPicture_partner a1 a2 a3 a4 a0) 144) (some [.v (.int .u8 (a3 (Int.toNat (s_iPicture_partner a1 a2 a3 a4 a0))))]) none) = Option.map l_iFillByKind_1 (s_iFillByKind_1 a0 a1 a2 a3 a4) := by
    unfold s_iFillByKind_1
    exact (cond_app (Option.map l_iFillByKind_1) rfl rfl)
  rw [e, h]; rfl
noncomputable def c_iFillByKind_1 : List A → ACall
  | [.v (.int .i64 a0), .ref (.rc [.v (.int .i8 a1), .v (.int .i8 a2), .fa 144 .u8 a3]), .ref (.v (.int .i64 a4))] => ⟨Int, s_iFillByKind_1 a0 a1 a2 a3 a4, fun r => .one (.v (.int .u8 r))⟩
  | _ => ACall.fail
theorem f_iFillByKind_1_sound : Sound Try.prog 134 c_iFillByKind_1 := by
  refine sound_good f_iFillByKind_1_ctx f_iFillByKind_1_LV 3 Try.func134 (c := f_iFillByKind_1_c) (by kernel_rfl) (rv := f_iFillByKind_1_rv) (by kernel_rfl) (by kernel_rfl) (by kernel_rfl) (by kernel_rfl) fun rs => ?_
  unfold c_iFillByKind_1
  split
  · rename_i a0 a1 a2 a3 a4; intro v h; exact ⟨rfl, l_iFillByKind_1 v, rfl, (f_iFillByKind_1_top a0 a1 a2 a3 a4 _).trans (s_iFillByKind_1_ok a0 a1 a2 a3 a4 v h)⟩
  · intro v h; cases h

/-! ### function 133: loop.example/g01322/impl.filled -/
noncomputable def f_ifilled_a_c : Code := match Try.f133.body with | some c => c | none => .skip
noncomputable def f_ifilled_a_X : Ctx := ⟨TT, phiOf [(127, c_iPicture_numbers), (134, c_iFillByKind_1)], noPsi, noXi⟩
def f_ifilled_a_LV : List (Nat × Keep) := [(3, ([1, 2, 4, 6, 7, 12, 13, 14], [], []))]
def f_ifilled_a_rv : List ResultVar := [.cell 4 26, .tmp 5]
noncomputable def f_ifilled_a_L (r : List A) : Nat → AS → Option (List A) := L f_ifilled_a_X (cnOf f_ifilled_a_LV) f_ifilled_a_c (K0 TT f_ifilled_a_rv) r
theorem f_ifilled_a_ctx : CtxOK Try.prog f_ifilled_a_X := ctx_of tab mix ⟨⟨Try.call127, f_iPicture_numbers_sound⟩, ⟨Try.call134, f_iFillByKind_1_sound⟩, trivial⟩
noncomputable def f_ifilled_a_s3 (x0 : Int) (x1 : Int) (x2 : Int) (x3 : Int) (x4 : Int) (x5 : (Nat → Int)) (x6 : Int) (x7 : Int) (x8 : Int) (x9 : (Nat → Int)) (x10 : Int) (x11 : Int) (x12 : (Nat → Int)) (x13 : Int) (x14 : Int) (x15 : (Nat → Int)) (x16 : (List Int)) : AS := ⟨[(1, .a (.clo 134 [.ptr 0 [] (0), .ptr 1 [] (0)])), (2, .a (.ptr 2 [] (0))), (4, .a (.ptr 3 [] (0))), (6, .a (.ptr 4 [] (0))), (7, .a (.v (.int .i64 x0))), (12, .a (.sl 5)), (13, .a (.v (.int .i64 x1))), (14, .a (.v (.int .i64 x2)))], [(0, some ⟨false, .box (.rc [.v (.int .i8 x3), .v (.int .i8 x4), .fa 144 .u8 x5])⟩), (1, some ⟨false, .box (.v (.int .i64 x6))⟩), (2, some ⟨true, .box (.rc [.v (.int .i8 x7), .v (.int .i8 x8), .fa 144 .u8 x9])⟩), (3, some ⟨true, .box (.rc [.v (.int .i8 x10), .v (.int .i8 x11), .fa 144 .u8 x12])⟩), (4, some ⟨true, .box (.rc [.v (.int .i8 x13), .v (.int .i8 x14), .fa 144 .u8 x15])⟩), (5, some ⟨true, .arr (.one (.i .i64)) x16⟩)], 6⟩
noncomputable def l_ifilled_a (r : (Int × Int × (Nat → Int) × Int)) : List A := [.rc [.v (.int .i8 r.1), .v (.int .i8 r.2.1), .fa 144 .u8 r.2.2.1], .v (.int .i64 r.2.2.2)]
theorem f_ifilled_a_step3 (x0 : Int) (x1 : Int) (x2 : Int) (x3 : Int) (x4 : Int) (x5 : (Nat → Int)) (x6 : Int) (x7 : Int) (x8 : Int) (x9 : (Nat → Int)) (x10 : Int) (x11 : Int) (x12 : (Nat → Int)) (x13 : Int) (x14 : Int) (x15 : (Nat → Int)) (x16 : (List Int)) (r : List A) (h : (cond (decide (x2 < x1)) (cond (inB x2 (List.length x16)) (cond (inB (List.getD x16 (Int.toNat x2) 0) 144) (cond ((x9 (Int.toNat (List.getD x16 (Int.toNat x2) 0))) != 0) (f_ifilled_a_L r 3 (f_ifilled_a_s3 x0 x1 (IntKind.wrap .i64 (x2 + 1)) x3 x4 x5 x6 x7 x8 x9 x10 x11 x12 x13 x14 x15 x16)) (Option.bind (s_iFillByKind_1 (List.getD x16 (Int.toNat x2) 0) x3 x4 x5 x6) fun r2 => (cond (inB (List.getD x16 (Int.toNat x2) 0) 144) (cond (inB (List.getD x16 (Int.toNat x2) 0) 144) (cond (((upd x15 (Int.toNat (List.getD x16 (Int.toNat x2) 0)) r2) (Int.toNat (List.getD x16 (Int.toNat x2) 0))) != 0) (f_ifilled_a_L r 3 (f_ifilled_a_s3 (IntKind.wrap .i64 (x0 + 1)) x1 (IntKind.wrap .i64 (x2 + 1)) x3 x4 x5 x6 x7 x8 x9 x10 x11 x12 x13 x14 (upd x15 (Int.toNat (List.getD x16 (Int.toNat x2) 0)) r2) x16)) (f_ifilled_a_L r 3 (f_ifilled_a_s3 x0 x1 (IntKind.wrap .i64 (x2 + 1)) x3 x4 x5 x6 x7 x8 x9 x10 x11 x12 x13 x14 (upd x15 (Int.toNat (List.getD x16 (Int.toNat x2) 0)) r2) x16))) none) none))) none) none) (some [.rc [.v (.int .i8 x13), .v (.int .i8 x14), .fa 144 .u8 x15], .v (.int .i64 x0)])) = some r) : f_ifilled_a_L r 3 (f_ifilled_a_s3 x0 x1 x2 x3 x4 x5 x6 x7 x8 x9 x10 x11 x12 x13 x14 x15 x16) = some r :=
  step_of' h (by kernel_rfl)
noncomputable def f_ifilled_a_n3 (x0 : Int) (x1 : Int) (x2 : Int) (x3 : Int) (x4 : Int) (x5 : (Nat → Int)) (x6 : Int) (x7 : Int) (x8 : Int) (x9 : (Nat → Int)) (x10 : Int) (x11 : Int) (x12 : (Nat → Int)) (x13 : Int) (x14 : Int) (x15 : (Nat → Int)) (x16 : (List Int)) : Option ((Int × Int × Int × Int × Int × (Nat → Int) × Int × Int × Int × (Nat → Int) × Int × Int × (Nat → Int) × Int × Int × (Nat → Int) × (List Int)) ⊕ (Int × Int × (Nat → Int) × Int)) := (cond (decide (x2 < x1)) (cond (inB x2 (List.length x16)) (cond (inB (List.getD x16 (Int.toNat x2) 0) 144) (cond ((x9 (Int.toNat (List.getD x16 (Int.toNat x2) 0))) != 0) (some (Sum.inl (x0, x1, (IntKind.wrap .i64 (x2 + 1)), x3, x4, x5, x6, x7, x8, x9, x10, x11, x12, x13, x14, x15, x16))) (Option.bind (s_iFillByKind_1 (List.getD x16 (Int.toNat x2) 0) x3 x4 x5 x6) fun r2 => (cond (inB (List.getD x16 (Int.toNat x2) 0) 144) (cond (inB (List.getD x16 (Int.toNat x2) 0) 144) (cond (((upd x15 (Int.toNat (List.getD x16 (Int.toNat x2) 0)) r2) (Int.toNat (List.getD x16 (Int.toNat x2) 0))) != 0) (some (Sum.inl ((IntKind.wrap .i64 (x0 + 1)), x1, (IntKind.wrap .i64 (x2 + 1)), x3, x4, x5, x6, x7, x8, x9, x10, x11, x12, x13, x14, (upd x15 (Int.toNat (List.getD x16 (Int.toNat x2) 0)) r2), x16))) (some (Sum.inl (x0, x1, (IntKind.wrap .i64 (x2 + 1)), x3, x4, x5, x6, x7, x8, x9, x10, x11, x12, x13, x14, (upd x15 (Int.toNat (List.getD x16 (Int.toNat x2) 0)) r2), x16)))) none) none))) none) none) (some (Sum.inr (x13, x14, x15, x0))))
noncomputable def f_ifilled_a_run3 (x : (Int × Int × Int × Int × Int × (Nat → Int) × Int × Int × Int × (Nat → Int) × Int × Int × (Nat → Int) × Int × Int × (Nat → Int) × (List Int))) : Option (Int × Int × (Nat → Int) × Int) := iter (fun x => f_ifilled_a_n3 x.1 x.2.1 x.2.2.1 x.2.2.2.1 x.2.2.2.2.1 x.2.2.2.2.2.1 x.2.2.2.2.2.2.1 x.2.2.2.2.2.2.2.1 x.2.2.2.2.2.2.2.2.1 x.2.2.2.2.2.2.2.2.2.1 x.2.2.2.2.2.2.2.2.2.2.1 x.2.2.2.2.2.2.2.2.2.2.2.1 x.2.2.2.2.2.2.2.2.2.2.2.2.1 x.2.2.2.2.2.2.2.2.2.2.2.2.2.1 x.2.2.2.2.2.2.2.2.2.2.2.2.2.2.1 x.2.2.2.2.2.2.2.2.2.2.2.2.2.2.2.1 x.2.2.2.2.2.2.2.2.2.2.2.2.2.2.2.2) FU x
noncomputable def f_ifilled_a_G3 (r : List A) (x : (Int × Int × Int × Int × Int × (Nat → Int) × Int × Int × Int × (Nat → Int) × Int × Int × (Nat → Int) × Int × Int × (Nat → Int) × (List Int))) : Prop := f_ifilled_a_L r 3 (f_ifilled_a_s3 x.1 x.2.1 x.2.2.1 x.2.2.2.1 x.2.2.2.2.1 x.2.2.2.2.2.1 x.2.2.2.2.2.2.1 x.2.2.2.2.2.2.2.1 x.2.2.2.2.2.2.2.2.1 x.2.2.2.2.2.2.2.2.2.1 x.2.2.2.2.2.2.2.2.2.2.1 x.2.2.2.2.2.2.2.2.2.2.2.1 x.2.2.2.2.2.2.2.2.2.2.2.2.1 x.2.2.2.2.2.2.2.2.2.2.2.2.2.1 x.2.2.2.2.2.2.2.2.2.2.2.2.2.2.1 x.2.2.2.2.2.2.2.2.2.2.2.2.2.2.2.1 x.2.2.2.2.2.2.2.2.2.2.2.2.2.2.2.2) = some r
noncomputable def f_ifilled_a_S3 (r : List A) : (Int × Int × (Nat → Int) × Int) → Prop := fun v => r = l_ifilled_a v
theorem f_ifilled_a_go3 (r : List A) : ∀ x, sem (f_ifilled_a_S3 r) (f_ifilled_a_run3 x) → f_ifilled_a_G3 r x :=
  fun x => iter_sound (step := fun x => f_ifilled_a_n3 x.1 x.2.1 x.2.2.1 x.2.2.2.1 x.2.2.2.2.1 x.2.2.2.2.2.1 x.2.2.2.2.2.2.1 x.2.2.2.2.2.2.2.1 x.2.2.2.2.2.2.2.2.1 x.2.2.2.2.2.2.2.2.2.1 x.2.2.2.2.2.2.2.2.2.2.1 x.2.2.2.2.2.2.2.2.2.2.2.1 x.2.2.2.2.2.2.2.2.2.2.2.2.1 x.2.2.2.2.2.2.2.2.2.2.2.2.2.1 x.2.2.2.2.2.2.2.2.2.2.2.2.2.2.1 x.2.2.2.2.2.2.2.2.2.2.2.2.2.2.2.1 x.2.2.2.2.2.2.2.2.2.2.2.2.2.2.2.2) (fun x h => by
    unfold f_ifilled_a_n3 at h
    exact f_ifilled_a_step3 x.1 x.2.1 x.2.2.1 x.2.2.2.1 x.2.2.2.2.1 x.2.2.2.2.2.1 x.2.2.2.2.2.2.1 x.2.2.2.2.2.2.2.1 x.2.2.2.2.2.2.2.2.1 x.2.2.2.2.2.2.2.2.2.1 x.2.2.2.2.2.2.2.2.2.2.1 x.2.2.2.2.2.2.2.2.2.2.2.1 x.2.2.2.2.2.2.2.2.2.2.2.2.1 x.2.2.2.2.2.2.2.2.2.2.2.2.2.1 x.2.2.2.2.2.2.2.2.2.2.2.2.2.2.1 x.2.2.2.2.2.2.2.2.2.2.2.2.2.2.2.1 x.2.2.2.2.2.2.2.2.2.2.2.2.2.2.2.2 r ((sem_cond h (fun h => (sem_cond h (fun h => (sem_cond h (fun h => (sem_cond h (fun h => sem_got h fun q => q) (fun h => (sem_bind h fun r2 h => (sem_cond h (fun h => (sem_cond h (fun h => (sem_cond h (fun h => sem_got h fun q => q) (fun h => sem_got h fun q => q))) (fun h => sem_none h))) (fun h => sem_none h)))))) (fun h => sem_none h))) (fun h => sem_none h))) (fun h => sem_got h fun q => some_eq q)))) FU x
noncomputable def s_ifilled_a (a0 : Int) (a1 : Int) (a2 : (Nat → Int)) (a3 : Int) (a4 : Int) (a5 : (Nat → Int)) (a6 : Int) : Option (Int × Int × (Nat → Int) × Int) := (Option.bind (s_iPicture_numbers a0 a1 a2) fun r1 => (f_ifilled_a_run3 (0, ((List.length r1 : Nat) : Int), 0, a3, a4, a5, a6, a0, a1, a2, 0, 0, zF, a0, a1, a2, r1)))
theorem f_ifilled_a_top (a0 : Int) (a1 : Int) (a2 : (Nat → Int)) (a3 : Int) (a4 : Int) (a5 : (Nat → Int)) (a6 : Int) (r : List A) : ev f_ifilled_a_X (lpc (cnOf f_ifilled_a_LV) (f_ifilled_a_L r)) f_ifilled_a_c (K0 TT f_ifilled_a_rv) (enter [.rc [.v (.int .i8 a0), .v (.int .i8 a1), .fa 144 .u8 a2], .clo 134 [.ref (.rc [.v (.int .i8 a3), .v (.int .i8 a4), .fa 144 .u8 a5]), .ref (.v (.int .i64 a6))]]) = (Option.bind (s_iPicture_numbers a0 a1 a2) fun r1 => (f_ifilled_a_L r 3 (f_ifilled_a_s3 0 ((List.length r1 : Nat) : Int) 0 a3 a4 a5 a6 a0 a1 a2 0 0 zF a0 a1 a2 r1))) := by kernel_rfl
theorem s_ifilled_a_ok (a0 : Int) (a1 : Int) (a2 : (Nat → Int)) (a3 : Int) (a4 : Int) (a5 : (Nat → Int)) (a6 : Int) (v : (Int × Int × (Nat → Int) × Int)) (h : s_ifilled_a a0 a1 a2 a3 a4 a5 a6 = some v) : (Option.bind (s_iPicture_numbers a0 a1 a2) fun r1 => (f_ifilled_a_L (l_ifilled_a v) 3 (f_ifilled_a_s3 0 ((List.length r1 : Nat) : Int) 0 a3 a4 a5 a6 a0 a1 a2 0 0 zF a0 a1 a2 r1))) = some (l_ifilled_a v) := by
  unfold s_ifilled_a at h
  have go : ∀ r, sem (fun v => r = l_ifilled_a v) ((Option.bind (s_iPicture_numbers a0 a1 a2) fun r1 => (f_ifilled_a_run3 (0, ((List.length r1 : Nat) : Int), 0, a3, a4, a5, a6, a0, a1, a2, 0, 0, zF, a0, a1, a2, r1)))) → (Option.bind (s_iPicture_numbers a0 a1 a2) fun r1 => (f_ifilled_a_L r 3 (f_ifilled_a_s3 0 ((List.length r1 : Nat) : Int) 0 a3 a4 a5 a6 a0 a1 a2 0 0 zF a0 a1 a2 r1))) = some r := fun r h => (sem_bind h fun r1 h => f_ifilled_a_go3 r _ h)
  exact go (l_ifilled_a v) ⟨v, h, rfl⟩
noncomputable def c_ifilled_a : List A → ACall
  | [.rc [.v (.int .i8 a0), .v (.int .i8 a1), .fa 144 .u8 a2], .clo 134 [.ref (.rc [.v (.int .i8 a3), .v (.int .i8 a4), .fa 144 .u8 a5]), .ref (.v (.int .i64 a6))]] => ⟨(Int × Int × (Nat → Int) × Int), s_ifilled_a a0 a1 a2 a3 a4 a5 a6, fun r => .tup [.rc [.v (.int .i8 r.1), .v (.int .i8 r.2.1), .fa 144 .u8 r.2.2.1], .v (.int .i64 r.2.2.2)]⟩
  | _ => ACall.fail
theorem f_ifilled_a_sound : Sound Try.prog 133 c_ifilled_a := by
  refine sound_good f_ifilled_a_ctx f_ifilled_a_LV 2 Try.func133 (c := f_ifilled_a_c) (by kernel_rfl) (rv := f_ifilled_a_rv) (by kernel_rfl) (by kernel_rfl) (by kernel_rfl) (by kernel_rfl) fun rs => ?_
  unfold c_ifilled_a
  split
  · rename_i a0 a1 a2 a3 a4 a5 a6; intro v h; exact ⟨rfl, l_ifilled_a v, rfl, (f_ifilled_a_top a0 a1 a2 a3 a4 a5 a6 _).trans (s_ifilled_a_ok a0 a1 a2 a3 a4 a5 a6 v h)⟩
  · intro v h; cases h
def m_ifilled_a : List A → Bool
  | [_, .clo 134 _] => true
  | _ => false

/-! ### function 62: loop.example/g01322/impl.FillByKind -/
noncomputable def f_iFillByKind_c : Code := match Try.f62.body with | some c => c | none => .skip
noncomputable def f_iFillByKind_X : Ctx := ⟨TT, phiOf [(133, c_ifilled_a), (132, c_iisKind), (73, c_icodeOf), (74, c_iValidPicture)], noPsi, noXi⟩
def f_iFillByKind_LV : List (Nat × Keep) := []
def f_iFillByKind_rv : List ResultVar := [.cell 4 26, .tmp 5, .tmp 6]
noncomputable def f_iFillByKind_L (r : List A) : Nat → AS → Option (List A) := L f_iFillByKind_X (cnOf f_iFillByKind_LV) f_iFillByKind_c (K0 TT f_iFillByKind_rv) r
theorem f_iFillByKind_ctx : CtxOK Try.prog f_iFillByKind_X := ctx_of tab mix ⟨⟨Try.call133, f_ifilled_a_sound⟩, ⟨Try.call132, f_iisKind_sound⟩, ⟨Try.call73, f_icodeOf_sound⟩, ⟨Try.call74, f_iValidPicture_sound⟩, trivial⟩
noncomputable def s_iFillByKind (a0 : Int) (a1 : Int) (a2 : (Nat → Int)) (a3 : Int) : Option (Int × Int × (Nat → Int) × Int × Int) := (cond ((s_icodeOf (s_iValidPicture a0 a1 a2) (s_iisKind a3)) != 0) (some (0, 0, zF, 0, (s_icodeOf (s_iValidPicture a0 a1 a2) (s_iisKind a3)))) (Option.bind (s_ifilled_a a0 a1 a2 a0 a1 a2 a3) fun r1 => (some ((r1.1), (r1.2.1), (r1.2.2.1), (r1.2.2.2), 0))))
theorem f_iFillByKind_top (a0 : Int) (a1 : Int) (a2 : (Nat → Int)) (a3 : Int) (r : List A) : ev f_iFillByKind_X (lpc (cnOf f_iFillByKind_LV) (f_iFillByKind_L r)) f_iFillByKind_c (K0 TT f_iFillByKind_rv) (enter [.rc [.v (.int .i8 a0), .v (.int .i8 a1), .fa 144 .u8 a2], .v (.int .i64 a3)]) = (cond ((s_icodeOf (s_iValidPicture a0 a1 a2) (s_iisKind a3)) != 0) (some [.rc [.v (.int .i8 0), .v (.int .i8 0), .fa 144 .u8 zF], .v (.int .i64 0), .v (.int .i64 (s_icodeOf (s_iValidPicture a0 a1 a2) (s_iisKind a3)))]) (Option.bind (s_ifilled_a a0 a1 a2 a0 a1 a2 a3) fun r1 => (some [.rc [.v (.int .i8 r1.1), .v (.int .i8 r1.2.1), .fa 144 .u8 r1.2.2.1], .v (.int .i64 r1.2.2.2), .v (.int .i64 0)]))) := by kernel_rfl
noncomputable def l_iFillByKind (r : (Int × Int × (Nat → Int) × Int × Int)) : List A := [.rc [.v (.int .i8 r.1), .v (.int .i8 r.2.1), .fa 144 .u8 r.2.2.1], .v (.int .i64 r.2.2.2.1), .v (.int .i64 r.2.2.2.2)]
theorem s_iFillByKind_ok (a0 : Int) (a1 : Int) (a2 : (Nat → Int)) (a3 : Int) (v : (Int × Int × (Nat → Int) × Int × Int)) (h : s_iFillByKind a0 a1 a2 a3 = some v) : (cond ((s_icodeOf (s_iValidPicture a0 a1 a2) (s_iisKind a3)) != 0) (some [.rc [.v (.int .i8 0), .v (.int .i8 0), .fa 144 .u8 zF], .v (.int .i64 0), .v (.int .i64 (s_icodeOf (s_iValidPicture a0 a1 a2) (s_iisKind a3)))]) (Option.bind (s_ifilled_a a0 a1 a2 a0 a1 a2 a3) fun r1 => (some [.rc [.v (.int .i8 r1.1), .v (.int .i8 r1.2.1), .fa 144 .u8 r1.2.2.1], .v (.int .i64 r1.2.2.2), .v (.int .i64 0)]))) = some (l_iFillByKind v) := by
  have e : (cond ((s_icodeOf (s_iValidPicture a0 a1 a2) (s_iisKind a3)) != 0) (some [.rc [.v (.int .i8 0), .v (.int .i8 0), .fa 144 .u8 zF], .v (.int .i64 0), .v (.int .i64 (s_icodeOf (s_iValidPicture a0 a1 a2) (s_iisKind a3)))]) (Option.bind (s_ifilled_a a0 a1 a2 a0 a1 a2 a3) fun r1 => (some [.rc [.v (.int .i8 r1.1), .v (.int .i8 r1.2.1), .fa 144 .u8 r1.2.2.1], .v (.int .i64 r1.2.2.2), .v (.int .i64 0)]))) = Option.map l_iFillByKind (s_iFillByKind a0 a1 a2 a3) := by
    unfold s_iFillByKind
    exact (cond_app (Option.map l_iFillByKind) rfl (bind_app fun _ => rfl))
  rw [e, h]; rfl
noncomputable def c_iFillByKind : List A → ACall
  | [.rc [.v (.int .i8 a0), .v (.int .i8 a1), .fa 144 .u8 a2], .v (.int .i64 a3)] => ⟨(Int × Int × (Nat → Int) × Int × Int), s_iFillByKind a0 a1 a2 a3, fun r => .tup [.rc [.v (.int .i8 r.1), .v (.int .i8 r.2.1), .fa 144 .u8 r.2.2.1], .v (.int .i64 r.2.2.2.1), .v (.int .i64 r.2.2.2.2)]⟩
  | _ => ACall.fail
theorem f_iFillByKind_sound : Sound Try.prog 62 c_iFillByKind := by
  refine sound_good f_iFillByKind_ctx f_iFillByKind_LV 2 Try.func62 (c := f_iFillByKind_c) (by kernel_rfl) (rv := f_iFillByKind_rv) (by kernel_rfl) (by kernel_rfl) (by kernel_rfl) (by kernel_rfl) fun rs => ?_
  unfold c_iFillByKind
  split
  · rename_i a0 a1 a2 a3; intro v h; exact ⟨rfl, l_iFillByKind v, rfl, (f_iFillByKind_top a0 a1 a2 a3 _).trans (s_iFillByKind_ok a0 a1 a2 a3 v h)⟩
  · intro v h; cases h

/-! ### function 136: loop.example/g01322/spec.l06Kind -/
noncomputable def f_sl06Kind_c : Code := match Try.f136.body with | some c => c | none => .skip
noncomputable def f_sl06Kind_X : Ctx := ⟨TT, phiOf [(70, c_sl00In)], noPsi, noXi⟩
def f_sl06Kind_LV : List (Nat × Keep) := []
def f_sl06Kind_rv : List ResultVar := [.tmp 2]
noncomputable def f_sl06Kind_L (r : List A) : Nat → AS → Option (List A) := L f_sl06Kind_X (cnOf f_sl06Kind_LV) f_sl06Kind_c (K0 TT f_sl06Kind_rv) r
theorem f_sl06Kind_ctx : CtxOK Try.prog f_sl06Kind_X := ctx_of tab mix ⟨⟨Try.call70, f_sl00In_sound⟩, trivial⟩
noncomputable def s_sl06Kind (a0 : Int) : Bool := (s_sl00In a0 0 2)
theorem f_sl06Kind_top (a0 : Int) (r : List A) : ev f_sl06Kind_X (lpc (cnOf f_sl06Kind_LV) (f_sl06Kind_L r)) f_sl06Kind_c (K0 TT f_sl06Kind_rv) (enter [.v (.int .i64 a0)]) = (some [.v (.bool (s_sl00In a0 0 2))]) := by kernel_rfl
noncomputable def l_sl06Kind (r : Bool) : List A := [.v (.bool r)]
theorem s_sl06Kind_ok (a0 : Int) : (some [.v (.bool (s_sl00In a0 0 2))]) = some (l_sl06Kind (s_sl06Kind a0)) := by
  unfold s_sl06Kind
  exact rfl
noncomputable def c_sl06Kind : List A → ACall
  | [.v (.int .i64 a0)] => ⟨Bool, some (s_sl06Kind a0), fun r => .one (.v (.bool r))⟩
  | _ => ACall.fail
theorem f_sl06Kind_sound : Sound Try.prog 136 c_sl06Kind := by
  refine sound_good f_sl06Kind_ctx f_sl06Kind_LV 1 Try.func136 (c := f_sl06Kind_c) (by kernel_rfl) (rv := f_sl06Kind_rv) (by kernel_rfl) (by kernel_rfl) (by kernel_rfl) (by kernel_rfl) fun rs => ?_
  unfold c_sl06Kind
  split
  · rename_i a0; intro v h; cases h; exact ⟨rfl, l_sl06Kind (s_sl06Kind a0), rfl, (f_sl06Kind_top a0 _).trans (s_sl06Kind_ok a0)⟩
  · intro v h; cases h

/-! ### function 128: loop.example/g01322/spec.l06Lost -/
noncomputable def f_sl06Lost_c : Code := match Try.f128.body with | some c => c | none => .skip
noncomputable def f_sl06Lost_X : Ctx := ⟨TT, phiOf [(138, c_sl01Is)], noPsi, noXi⟩
def f_sl06Lost_LV : List (Nat × Keep) := [(3, ([0, 3, 4], [], []))]
def f_sl06Lost_rv : List ResultVar := [.tmp 2]
noncomputable def f_sl06Lost_L (r : List A) : Nat → AS → Option (List A) := L f_sl06Lost_X (cnOf f_sl06Lost_LV) f_sl06Lost_c (K0 TT f_sl06Lost_rv) r
theorem f_sl06Lost_ctx : CtxOK Try.prog f_sl06Lost_X := ctx_of tab mix ⟨⟨Try.call138, f_sl01Is_sound⟩, trivial⟩
noncomputable def f_sl06Lost_s3 (x0 : Int) (x1 : Int) (x2 : Int) (x3 : (Nat → Int)) (x4 : (List Int)) : AS := ⟨[(0, .a (.ptr 0 [] (0))), (3, .a (.sl 1)), (4, .a (.v (.int .i64 x0)))], [(0, some ⟨false, .box (.rc [.v (.int .i8 x1), .v (.int .i8 x2), .fa 144 .u8 x3])⟩), (1, some ⟨true, .arr (.one (.i .i64)) x4⟩)], 2⟩
noncomputable def l_sl06Lost (r : (List Int)) : List A := [.lst (.one (.i .i64)) r]
theorem f_sl06Lost_step3 (x0 : Int) (x1 : Int) (x2 : Int) (x3 : (Nat → Int)) (x4 : (List Int)) (r : List A) (h : (cond (decide (x0 < 144)) (cond (s_sl01Is x1 x2 x3 x0) (cond (inB x0 144) (cond ((x3 (Int.toNat x0)) == 0) (cond (fits ((List.length (x4 : List Int) + List.length ([x0] : List Int)) * 8)) (f_sl06Lost_L r 3 (f_sl06Lost_s3 (IntKind.wrap .i64 (x0 + 1)) x1 x2 x3 (x4 ++ [x0]))) none) (f_sl06Lost_L r 3 (f_sl06Lost_s3 (IntKind.wrap .i64 (x0 + 1)) x1 x2 x3 x4))) none) (f_sl06Lost_L r 3 (f_sl06Lost_s3 (IntKind.wrap .i64 (x0 + 1)) x1 x2 x3 x4))) (some [.lst (.one (.i .i64)) x4])) = some r) : f_sl06Lost_L r 3 (f_sl06Lost_s3 x0 x1 x2 x3 x4) = some r :=
  step_of' h (by kernel_rfl)
noncomputable def f_sl06Lost_n3 (x0 : Int) (x1 : Int) (x2 : Int) (x3 : (Nat → Int)) (x4 : (List Int)) : Option ((Int × Int × Int × (Nat → Int) × (List Int)) ⊕ (List Int)) := (cond (decide (x0 < 144)) (cond (s_sl01Is x1 x2 x3 x0) (cond (inB x0 144) (cond ((x3 (Int.toNat x0)) == 0) (cond (fits ((List.length (x4 : List Int) + List.length ([x0] : List Int)) * 8)) (some (Sum.inl ((IntKind.wrap .i64 (x0 + 1)), x1, x2, x3, (x4 ++ [x0])))) none) (some (Sum.inl ((IntKind.wrap .i64 (x0 + 1)), x1, x2, x3, x4)))) none) (some (Sum.inl ((IntKind.wrap .i64 (x0 + 1)), x1, x2, x3, x4)))) (some (Sum.inr x4)))
noncomputable def f_sl06Lost_run3 (x : (Int × Int × Int × (Nat → Int) × (List Int))) : Option (List Int) := iter (fun x => f_sl06Lost_n3 x.1 x.2.1 x.2.2.1 x.2.2.2.1 x.2.2.2.2) FU x
noncomputable def f_sl06Lost_G3 (r : List A) (x : (Int × Int × Int × (Nat → Int) × (List Int))) : Prop := f_sl06Lost_L r 3 (f_sl06Lost_s3 x.1 x.2.1 x.2.2.1 x.2.2.2.1 x.2.2.2.2) = some r
noncomputable def f_sl06Lost_S3 (r : List A) : (List Int) → Prop := fun v => r = l_sl06Lost v
theorem f_sl06Lost_go3 (r : List A) : ∀ x, sem (f_sl06Lost_S3 r) (f_sl06Lost_run3 x) → f_sl06Lost_G3 r x :=
  fun x => iter_sound (step := fun x => f_sl06Lost_n3 x.1 x.2.1 x.2.2.1 x.2.2.2.1 x.2.2.2.2) (fun x h => by
    unfold f_sl06Lost_n3 at h
    exact f_sl06Lost_step3 x.1 x.2.1 x.2.2.1 x.2.2.2.1 x.2.2.2.2 r ((sem_cond h (fun h => (sem_cond h (fun h => (sem_cond h (fun h => (sem_cond h (fun h => (sem_cond h (fun h => sem_got h fun q => q) (fun h => sem_none h))) (fun h => sem_got h fun q => q))) (fun h => sem_none h))) (fun h => sem_got h fun q => q))) (fun h => sem_got h fun q => some_eq q)))) FU x
noncomputable def s_sl06Lost (a0 : Int) (a1 : Int) (a2 : (Nat → Int)) : Option (List Int) := (f_sl06Lost_run3 (0, a0, a1, a2, []))
theorem f_sl06Lost_top (a0 : Int) (a1 : Int) (a2 : (Nat → Int)) (r : List A) : ev f_sl06Lost_X (lpc (cnOf f_sl06Lost_LV) (f_sl06Lost_L r)) f_sl06Lost_c (K0 TT f_sl06Lost_rv) (enter [.ref (.rc [.v (.int .i8 a0), .v (.int .i8 a1), .fa 144 .u8 a2])]) = (f_sl06Lost_L r 3 (f_sl06Lost_s3 0 a0 a1 a2 [])) := by kernel_rfl
theorem s_sl06Lost_ok (a0 : Int) (a1 : Int) (a2 : (Nat → Int)) (v : (List Int)) (h : s_sl06Lost a0 a1 a2 = some v) : (f_sl06Lost_L (l_sl06Lost v) 3 (f_sl06Lost_s3 0 a0 a1 a2 [])) = some (l_sl06Lost v) := by
  unfold s_sl06Lost at h
  have go : ∀ r, sem (fun v => r = l_sl06Lost v) ((f_sl06Lost_run3 (0, a0, a1, a2, []))) → (f_sl06Lost_L r 3 (f_sl06Lost_s3 0 a0 a1 a2 [])) = some r := fun r h => f_sl06Lost_go3 r _ h
  exact go (l_sl06Lost v) ⟨v, h, rfl⟩
noncomputable def c_sl06Lost : List A → ACall
  | [.ref (.rc [.v (.int .i8 a0), .v (.int .i8 a1), .fa 144 .u8 a2])] => ⟨(List Int), s_sl06Lost a0 a1 a2, fun r => .one (.lst (.one (.i .i64)) r)⟩
  | _ => ACall.fail
theorem f_sl06Lost_sound : Sound Try.prog 128 c_sl06Lost := by
  refine sound_good f_sl06Lost_ctx f_sl06Lost_LV 1 Try.func128 (c := f_sl06Lost_c) (by kernel_rfl) (rv := f_sl06Lost_rv) (by kernel_rfl) (by kernel_rfl) (by kernel_rfl) (by kernel_rfl) fun rs => ?_
  unfold c_sl06Lost
  split
  · rename_i a0 a1 a2; intro v h; exact ⟨rfl, l_sl06Lost v, rfl, (f_sl06Lost_top a0 a1 a2 _).trans (s_sl06Lost_ok a0 a1 a2 v h)⟩
  · intro v h; cases h

/-! ### function 137: loop.example/g01322/spec.l06Partner -/
noncomputable def f_sl06Partner_c : Code := match Try.f137.body with | some c => c | none => .skip
noncomputable def f_sl06Partner_X : Ctx := ⟨TT, phiOf [], noPsi, noXi⟩
def f_sl06Partner_LV : List (Nat × Keep) := []
def f_sl06Partner_rv : List ResultVar := [.tmp 6]
noncomputable def f_sl06Partner_L (r : List A) : Nat → AS → Option (List A) := L f_sl06Partner_X (cnOf f_sl06Partner_LV) f_sl06Partner_c (K0 TT f_sl06Partner_rv) r
theorem f_sl06Partner_ctx : CtxOK Try.prog f_sl06Partner_X := ctx_of tab mix trivial
noncomputable def s_sl06Partner (a0 : Int) (a1 : Int) (a2 : (Nat → Int)) (a3 : Int) (a4 : Int) : Int := (cond (a3 != 1) (cond (a3 != 0) (IntKind.wrap .i64 ((IntKind.wrap .i64 ((IntKind.wrap .i64 ((IntKind.wrap .i64 a0) - 1)) - (Int.tmod a4 12))) + (IntKind.wrap .i64 (12 * (IntKind.wrap .i64 ((IntKind.wrap .i64 ((IntKind.wrap .i64 a1) - 1)) - (IntKind.wrap .i64 (Int.tdiv a4 12)))))))) (IntKind.wrap .i64 ((IntKind.wrap .i64 ((IntKind.wrap .i64 ((IntKind.wrap .i64 a0) - 1)) - (Int.tmod a4 12))) + (IntKind.wrap .i64 (12 * (IntKind.wrap .i64 (Int.tdiv a4 12))))))) (cond (a3 != 0) (IntKind.wrap .i64 ((Int.tmod a4 12) + (IntKind.wrap .i64 (12 * (IntKind.wrap .i64 ((IntKind.wrap .i64 ((IntKind.wrap .i64 a1) - 1)) - (IntKind.wrap .i64 (Int.tdiv a4 12)))))))) (IntKind.wrap .i64 ((Int.tmod a4 12) + (IntKind.wrap .i64 (12 * (IntKind.wrap .i64 (Int.tdiv a4 12))))))))
theorem f_sl06Partner_top (a0 : Int) (a1 : Int) (a2 : (Nat → Int)) (a3 : Int) (a4 : Int) (r : List A) : ev f_sl06Partner_X (lpc (cnOf f_sl06Partner_LV) (f_sl06Partner_L r)) f_sl06Partner_c (K0 TT f_sl06Partner_rv) (enter [.ref (.rc [.v (.int .i8 a0), .v (.int .i8 a1), .fa 144 .u8 a2]), .v (.int .i64 a3), .v (.int .i64 a4)]) = (cond (a3 != 1) (cond (a3 != 0) (some [.v (.int .i64 (IntKind.wrap .i64 ((IntKind.wrap .i64 ((IntKind.wrap .i64 ((IntKind.wrap .i64 a0) - 1)) - (Int.tmod a4 12))) + (IntKind.wrap .i64 (12 * (IntKind.wrap .i64 ((IntKind.wrap .i64 ((IntKind.wrap .i64 a1) - 1)) - (IntKind.wrap .i64 (Int.tdiv a4 12)))))))))]) (some [.v (.int .i64 (IntKind.wrap .i64 ((IntKind.wrap .i64 ((IntKind.wrap .i64 ((IntKind.wrap .i64 a0) - 1)) - (Int.tmod a4 12))) + (IntKind.wrap .i64 (12 * (IntKind.wrap .i64 (Int.tdiv a4 12)))))))])) (cond (a3 != 0) (some [.v (.int .i64 (IntKind.wrap .i64 ((Int.tmod a4 12) + (IntKind.wrap .i64 (12 * (IntKind.wrap .i64 ((IntKind.wrap .i64 ((IntKind.wrap .i64 a1) - 1)) - (IntKind.wrap .i64 (Int.tdiv a4 12)))))))))]) (some [.v (.int .i64 (IntKind.wrap .i64 ((Int.tmod a4 12) + (IntKind.wrap .i64 (12 * (IntKind.wrap .i64 (Int.tdiv a4 12)))))))]))) := by kernel_rfl
noncomputable def l_sl06Partner (r : Int) : List A := [.v (.int .i64 r)]
theorem s_sl06Partner_ok (a0 : Int) (a1 : Int) (a2 : (Nat → Int)) (a3 : Int) (a4 : Int) : (cond (a3 != 1) (cond (a3 != 0) (some [.v (.int .i64 (IntKind.wrap .i64 ((IntKind.wrap .i64 ((IntKind.wrap .i64 ((IntKind.wrap .i64 a0) - 1)) - (Int.tmod a4 12))) + (IntKind.wrap .i64 (12 * (IntKind.wrap .i64 ((IntKind.wrap .i64 ((IntKind.wrap .i64 a1) - 1)) - (IntKind.wrap .i64 (Int.tdiv a4 12)))))))))]) (some [.v (.int .i64 (IntKind.wrap .i64 ((IntKind.wrap .i64 ((IntKind.wrap .i64 ((IntKind.wrap .i64 a0) - 1)) - (Int.tmod a4 12))) + (IntKind.wrap .i64 (12 * (IntKind.wrap .i64 (Int.tdiv a4 12)))))))])) (cond (a3 != 0) (some [.v (.int .i64 (IntKind.wrap .i64 ((Int.tmod a4 12) + (IntKind.wrap .i64 (12 * (IntKind.wrap .i64 ((IntKind.wrap .i64 ((IntKind.wrap .i64 a1) - 1)) - (IntKind.wrap .i64 (Int.tdiv a4 12)))))))))]) (some [.v (.int .i64 (IntKind.wrap .i64 ((Int.tmod a4 12) + (IntKind.wrap .i64 (12 * (IntKind.wrap .i64 (Int.tdiv a4 12)))))))]))) = some (l_sl06Partner (s_sl06Partner a0 a1 a2 a3 a4)) := by
  unfold s_sl06Partner
  exact (cond_app (fun x => some (l_sl06Partner x)) (cond_app (fun x => some (l_sl06Partner x)) rfl rfl) (cond_app (fun x => some (l_sl06Partner x)) rfl rfl))
noncomputable def c_sl06Partner : List A → ACall
  | [.ref (.rc [.v (.int .i8 a0), .v (.int .i8 a1), .fa 144 .u8 a2]), .v (.int .i64 a3), .v (.int .i64 a4)] => ⟨Int, some (s_sl06Partner a0 a1 a2 a3 a4), fun r => .one (.v (.int .i64 r))⟩
  | _ => ACall.fail
theorem f_sl06Partner_sound : Sound Try.prog 137 c_sl06Partner := by
  refine sound_good f_sl06Partner_ctx f_sl06Partner_LV 3 Try.func137 (c := f_sl06Partner_c) (by kernel_rfl) (rv := f_sl06Partner_rv) (by kernel_rfl) (by kernel_rfl) (by kernel_rfl) (by kernel_rfl) fun rs => ?_
  unfold c_sl06Partner
  split
  · rename_i a0 a1 a2 a3 a4; intro v h; cases h; exact ⟨rfl, l_sl06Partner (s_sl06Partner a0 a1 a2 a3 a4), rfl, (f_sl06Partner_top a0 a1 a2 a3 a4 _).trans (s_sl06Partner_ok a0 a1 a2 a3 a4)⟩
  · intro v h; cases h

/-! ### function 63: loop.example/g01322/spec.FillByKind -/
noncomputable def f_sFillByKind_c : Code := match Try.f63.body with | some c => c | none => .skip
noncomputable def f_sFillByKind_X : Ctx := ⟨TT, phiOf [(128, c_sl06Lost), (136, c_sl06Kind), (137, c_sl06Partner), (69, c_sl01Ok)], noPsi, noXi⟩
def f_sFillByKind_LV : List (Nat × Keep) := [(9, ([1, 2, 4, 7, 8, 9, 10], [], []))]
def f_sFillByKind_rv : List ResultVar := [.cell 4 26, .tmp 5, .tmp 6]
noncomputable def f_sFillByKind_L (r : List A) : Nat → AS → Option (List A) := L f_sFillByKind_X (cnOf f_sFillByKind_LV) f_sFillByKind_c (K0 TT f_sFillByKind_rv) r
theorem f_sFillByKind_ctx : CtxOK Try.prog f_sFillByKind_X := ctx_of tab mix ⟨⟨Try.call128, f_sl06Lost_sound⟩, ⟨Try.call136, f_sl06Kind_sound⟩, ⟨Try.call137, f_sl06Partner_sound⟩, ⟨Try.call69, f_sl01Ok_sound⟩, trivial⟩
noncomputable def f_sFillByKind_s9 (x0 : Int) (x1 : Int) (x2 : Int) (x3 : Int) (x4 : Int) (x5 : (Nat → Int)) (x6 : Int) (x7 : Int) (x8 : (Nat → Int)) (x9 : Int) (x10 : Int) (x11 : (Nat → Int)) (x12 : (List Int)) : AS := ⟨[(1, .a (.v (.int .i64 x0))), (2, .a (.ptr 0 [] (0))), (4, .a (.ptr 1 [] (0))), (7, .a (.ptr 2 [] (0))), (8, .a (.v (.int .i64 x1))), (9, .a (.sl 3)), (10, .a (.v (.int .i64 x2)))], [(0, some ⟨true, .box (.rc [.v (.int .i8 x3), .v (.int .i8 x4), .fa 144 .u8 x5])⟩), (1, some ⟨true, .box (.rc [.v (.int .i8 x6), .v (.int .i8 x7), .fa 144 .u8 x8])⟩), (2, some ⟨true, .box (.rc [.v (.int .i8 x9), .v (.int .i8 x10), .fa 144 .u8 x11])⟩), (3, some ⟨true, .arr (.one (.i .i64)) x12⟩)], 4⟩
noncomputable def l_sFillByKind (r : (Int × Int × (Nat → Int) × Int × Int)) : List A := [.rc [.v (.int .i8 r.1), .v (.int .i8 r.2.1), .fa 144 .u8 r.2.2.1], .v (.int .i64 r.2.2.2.1), .v (.int .i64 r.2.2.2.2)]
theorem f_sFillByKind_step9 (x0 : Int) (x1 : Int) (x2 : Int) (x3 : Int) (x4 : Int) (x5 : (Nat → Int)) (x6 : Int) (x7 : Int) (x8 : (Nat → Int)) (x9 : Int) (x10 : Int) (x11 : (Nat → Int)) (x12 : (List Int)) (r : List A) (h : (cond (decide (x2 < ((List.length x12 : Nat) : Int))) (cond (inB x2 (List.length x12)) (cond (inB (s_sl06Partner x3 x4 x5 x0 (List.getD x12 (Int.toNat x2) 0)) 144) (cond (inB x2 (List.length x12)) (cond (inB (List.getD x12 (Int.toNat x2) 0) 144) (cond ((x5 (Int.toNat (s_sl06Partner x3 x4 x5 x0 (List.getD x12 (Int.toNat x2) 0)))) != 0) (f_sFillByKind_L r 9 (f_sFillByKind_s9 x0 (IntKind.wrap .i64 (x1 + 1)) (IntKind.wrap .i64 (x2 + 1)) x3 x4 x5 x6 x7 x8 x9 x10 (upd x11 (Int.toNat (List.getD x12 (Int.toNat x2) 0)) (x5 (Int.toNat (s_sl06Partner x3 x4 x5 x0 (List.getD x12 (Int.toNat x2) 0))))) x12)) (f_sFillByKind_L r 9 (f_sFillByKind_s9 x0 x1 (IntKind.wrap .i64 (x2 + 1)) x3 x4 x5 x6 x7 x8 x9 x10 (upd x11 (Int.toNat (List.getD x12 (Int.toNat x2) 0)) (x5 (Int.toNat (s_sl06Partner x3 x4 x5 x0 (List.getD x12 (Int.toNat x2) 0))))) x12))) none) none) none) none) (some [.rc [.v (.int .i8 x9), .v (.int .i8 x10), .fa 144 .u8 x11], .v (.int .i64 x1), .v (.int .i64 0)])) = some r) : f_sFillByKind_L r 9 (f_sFillByKind_s9 x0 x1 x2 x3 x4 x5 x6 x7 x8 x9 x10 x11 x12) = some r :=
  step_of' h (by kernel_rfl)
noncomputable def f_sFillByKind_n9 (x0 : Int) (x1 : Int) (x2 : Int) (x3 : Int) (x4 : Int) (x5 : (Nat → Int)) (x6 : Int) (x7 : Int) (x8 : (Nat → Int)) (x9 : Int) (x10 : Int) (x11 : (Nat → Int)) (x12 : (List Int)) : Option ((Int × Int × Int × Int × Int × (Nat → Int) × Int × Int × (Nat → Int) × Int × Int × (Nat → Int) × (List Int)) ⊕ (Int × Int × (Nat → Int) × Int × Int)) := (cond (decide (x2 < ((List.length x12 : Nat) : Int))) (cond (inB x2 (List.length x12)) (cond (inB (s_sl06Partner x3 x4 x5 x0 (List.getD x12 (Int.toNat x2) 0)) 144) (cond (inB x2 (List.length x12)) (cond (inB (List.getD x12 (Int.toNat x2) 0) 144) (cond ((x5 (Int.toNat (s_sl06Partner x3 x4 x5 x0 (List.getD x12 (Int.toNat x2) 0)))) != 0) (some (Sum.inl (x0, (IntKind.wrap .i64 (x1 + 1)), (IntKind.wrap .i64 (x2 + 1)), x3, x4, x5, x6, x7, x8, x9, x10, (upd x11 (Int.toNat (List.getD x12 (Int.toNat x2) 0)) (x5 (Int.toNat (s_sl06Partner x3 x4 x5 x0 (List.getD x12 (Int.toNat x2) 0))))), x12))) (some (Sum.inl (x0, x1, (IntKind.wrap .i64 (x2 + 1)), x3, x4, x5, x6, x7, x8, x9, x10, (upd x11 (Int.toNat (List.getD x12 (Int.toNat x2) 0)) (x5 (Int.toNat (s_sl06Partner x3 x4 x5 x0 (List.getD x12 (Int.toNat x2) 0))))), x12)))) none) none) none) none) (some (Sum.inr (x9, x10, x11, x1, 0))))
noncomputable def f_sFillByKind_run9 (x : (Int × Int × Int × Int × Int × (Nat → Int) × Int × Int × (Nat → Int) × Int × Int × (Nat → Int) × (List Int))) : Option (Int × Int × (Nat → Int) × Int × Int) := iter (fun x => f_sFillByKind_n9 x.1 x.2.1 x.2.2.1 x.2.2.2.1 x.2.2.2.2.1 x.2.2.2.2.2.1 x.2.2.2.2.2.2.1 x.2.2.2.2.2.2.2.1 x.2.2.2.2.2.2.2.2.1 x.2.2.2.2.2.2.2.2.2.1 x.2.2.2.2.2.2.2.2.2.2.1 x.2.2.2.2.2.2.2.2.2.2.2.1 x.2.2.2.2.2.2.2.2.2.2.2.2) FU x
noncomputable def f_sFillByKind_G9 (r : List A) (x : (Int × Int × Int × Int × Int × (Nat → Int) × Int × Int × (Nat → Int) × Int × Int × (Nat → Int) × (List Int))) : Prop := f_sFillByKind_L r 9 (f_sFillByKind_s9 x.1 x.2.1 x.2.2.1 x.2.2.2.1 x.2.2.2.2.1 x.2.2.2.2.2.1 x.2.2.2.2.2.2.1 x.2.2.2.2.2.2.2.1 x.2.2.2.2.2.2.2.2.1 x.2.2.2.2.2.2.2.2.2.1 x.2.2.2.2.2.2.2.2.2.2.1 x.2.2.2.2.2.2.2.2.2.2.2.1 x.2.2.2.2.2.2.2.2.2.2.2.2) = some r
noncomputable def f_sFillByKind_S9 (r : List A) : (Int × Int × (Nat → Int) × Int × Int) → Prop := fun v => r = l_sFillByKind v
theorem f_sFillByKind_go9 (r : List A) : ∀ x, sem (f_sFillByKind_S9 r) (f_sFillByKind_run9 x) → f_sFillByKind_G9 r x :=
  fun x => iter_sound (step := fun x => f_sFillByKind_n9 x.1 x.2.1 x.2.2.1 x.2.2.2.1 x.2.2.2.2.1 x.2.2.2.2.2.1 x.2.2.2.2.2.2.1 x.2.2.2.2.2.2.2.1 x.2.2.2.2.2.2.2.2.1 x.2.2.2.2.2.2.2.2.2.1 x.2.2.2.2.2.2.2.2.2.2.1 x.2.2.2.2.2.2.2.2.2.2.2.1 x.2.2.2.2.2.2.2.2.2.2.2.2) (fun x h => by
    unfold f_sFillByKind_n9 at h
    exact f_sFillByKind_step9 x.1 x.2.1 x.2.2.1 x.2.2.2.1 x.2.2.2.2.1 x.2.2.2.2.2.1 x.2.2.2.2.2.2.1 x.2.2.2.2.2.2.2.1 x.2.2.2.2.2.2.2.2.1 x.2.2.2.2.2.2.2.2.2.1 x.2.2.2.2.2.2.2.2.2.2.1 x.2.2.2.2.2.2.2.2.2.2.2.1 x.2.2.2.2.2.2.2.2.2.2.2.2 r ((sem_cond h (fun h => (sem_cond h (fun h => (sem_cond h (fun h => (sem_cond h (fun h => (sem_cond h (fun h => (sem_cond h (fun h => sem_got h fun q => q) (fun h => sem_got h fun q => q))) (fun h => sem_none h))) (fun h => sem_none h))) (fun h => sem_none h))) (fun h => sem_none h))) (fun h => sem_got h fun q => some_eq q)))) FU x
noncomputable def s_sFillByKind (a0 : Int) (a1 : Int) (a2 : (Nat → Int)) (a3 : Int) : Option (Int × Int × (Nat → Int) × Int × Int) := (cond (!(s_sl01Ok a0 a1 a2)) (some (0, 0, zF, 0, 1)) (cond (!(s_sl06Kind a3)) (some (0, 0, zF, 0, 2)) (Option.bind (s_sl06Lost a0 a1 a2) fun r1 => (f_sFillByKind_run9 (a3, 0, 0, a0, a1, a2, 0, 0, zF, a0, a1, a2, r1)))))
theorem f_sFillByKind_top (a0 : Int) (a1 : Int) (a2 : (Nat → Int)) (a3 : Int) (r : List A) : ev f_sFillByKind_X (lpc (cnOf f_sFillByKind_LV) (f_sFillByKind_L r)) f_sFillByKind_c (K0 TT f_sFillByKind_rv) (enter [.rc [.v (.int .i8 a0), .v (.int .i8 a1), .fa 144 .u8 a2], .v (.int .i64 a3)]) = (cond (!(s_sl01Ok a0 a1 a2)) (some [.rc [.v (.int .i8 0), .v (.int .i8 0), .fa 144 .u8 zF], .v (.int .i64 0), .v (.int .i64 1)]) (cond (!(s_sl06Kind a3)) (some [.rc [.v (.int .i8 0), .v (.int .i8 0), .fa 144 .u8 zF], .v (.int .i64 0), .v (.int .i64 2)]) (Option.bind (s_sl06Lost a0 a1 a2) fun r1 => (f_sFillByKind_L r 9 (f_sFillByKind_s9 a3 0 0 a0 a1 a2 0 0 zF a0 a1 a2 r1))))) := by kernel_rfl
theorem s_sFillByKind_ok (a0 : Int) (a1 : Int) (a2 : (Nat → Int)) (a3 : Int) (v : (Int × Int × (Nat → Int) × Int × Int)) (h : s_sFillByKind a0 a1 a2 a3 = some v) : (cond (!(s_sl01Ok a0 a1 a2)) (some [.rc [.v (.int .i8 0), .v (.int .i8 0), .fa 144 .u8 zF], .v (.int .i64 0), .v (.int .i64 1)]) (cond (!(s_sl06Kind a3)) (some [.rc [.v (.int .i8 0), .v (.int .i8 0), .fa 144 .u8 zF], .v (.int .i64 0), .v (.int .i64 2)]) (Option.bind (s_sl06Lost a0 a1 a2) fun r1 => (f_sFillByKind_L (l_sFillByKind v) 9 (f_sFillByKind_s9 a3 0 0 a0 a1 a2 0 0 zF a0 a1 a2 r1))))) = some (l_sFillByKind v) := by
  unfold s_sFillByKind at h
  have go : ∀ r, sem (fun v => r = l_sFillByKind v) ((cond (!(s_sl01Ok a0 a1 a2)) (some (0, 0, zF, 0, 1)) (cond (!(s_sl06Kind a3)) (some (0, 0, zF, 0, 2)) (Option.bind (s_sl06Lost a0 a1 a2) fun r1 => (f_sFillByKind_run9 (a3, 0, 0, a0, a1, a2, 0, 0, zF, a0, a1, a2, r1)))))) → (cond (!(s_sl01Ok a0 a1 a2)) (some [.rc [.v (.int .i8 0), .v (.int .i8 0), .fa 144 .u8 zF], .v (.int .i64 0), .v (.int .i64 1)]) (cond (!(s_sl06Kind a3)) (some [.rc [.v (.int .i8 0), .v (.int .i8 0), .fa 144 .u8 zF], .v (.int .i64 0), .v (.int .i64 2)]) (Option.bind (s_sl06Lost a0 a1 a2) fun r1 => (f_sFillByKind_L r 9 (f_sFillByKind_s9 a3 0 0 a0 a1 a2 0 0 zF a0 a1 a2 r1))))) = some r := fun r h => (sem_cond h (fun h => sem_got h fun q => some_eq q) (fun h => (sem_cond h (fun h => sem_got h fun q => some_eq q) (fun h => (sem_bind h fun r1 h => f_sFillByKind_go9 r _ h)))))
  exact go (l_sFillByKind v) ⟨v, h, rfl⟩
noncomputable def c_sFillByKind : List A → ACall
  | [.rc [.v (.int .i8 a0), .v (.int .i8 a1), .fa 144 .u8 a2], .v (.int .i64 a3)] => ⟨(Int × Int × (Nat → Int) × Int × Int), s_sFillByKind a0 a1 a2 a3, fun r => .tup [.rc [.v (.int .i8 r.1), .v (.int .i8 r.2.1), .fa 144 .u8 r.2.2.1], .v (.int .i64 r.2.2.2.1), .v (.int .i64 r.2.2.2.2)]⟩
  | _ => ACall.fail
theorem f_sFillByKind_sound : Sound Try.prog 63 c_sFillByKind := by
  refine sound_good f_sFillByKind_ctx f_sFillByKind_LV 2 Try.func63 (c := f_sFillByKind_c) (by kernel_rfl) (rv := f_sFillByKind_rv) (by kernel_rfl) (by kernel_rfl) (by kernel_rfl) (by kernel_rfl) fun rs => ?_
  unfold c_sFillByKind
  split
  · rename_i a0 a1 a2 a3; intro v h; exact ⟨rfl, l_sFillByKind v, rfl, (f_sFillByKind_top a0 a1 a2 a3 _).trans (s_sFillByKind_ok a0 a1 a2 a3 v h)⟩
  · intro v h; cases h

/-! ### function 139: (loop.example/g01322/impl.Picture).hasNumber -/
noncomputable def f_iPicture_hasNumber_c : Code := match Try.f139.body with | some c => c | none => .skip
noncomputable def f_iPicture_hasNumber_X : Ctx := ⟨TT, phiOf [(145, c_iPicture_has)], noPsi, noXi⟩
def f_iPicture_hasNumber_LV : List (Nat × Keep) := []
def f_iPicture_hasNumber_rv : List ResultVar := [.tmp 4]
noncomputable def f_iPicture_hasNumber_L (r : List A) : Nat → AS → Option (List A) := L f_iPicture_hasNumber_X (cnOf f_iPicture_hasNumber_LV) f_iPicture_hasNumber_c (K0 TT f_iPicture_hasNumber_rv) r
theorem f_iPicture_hasNumber_ctx : CtxOK Try.prog f_iPicture_hasNumber_X := ctx_of tab mix ⟨⟨Try.call145, f_iPicture_has_sound⟩, trivial⟩
noncomputable def s_iPicture_hasNumber (a0 : Int) (a1 : Int) (a2 : (Nat → Int)) (a3 : Int) : Bool := (cond (decide (a3 ≥ 0)) (s_iPicture_has a0 a1 a2 (Int.tmod a3 12) (IntKind.wrap .i64 (Int.tdiv a3 12))) false)
theorem f_iPicture_hasNumber_top (a0 : Int) (a1 : Int) (a2 : (Nat → Int)) (a3 : Int) (r : List A) : ev f_iPicture_hasNumber_X (lpc (cnOf f_iPicture_hasNumber_LV) (f_iPicture_hasNumber_L r)) f_iPicture_hasNumber_c (K0 TT f_iPicture_hasNumber_rv) (enter [.rc [.v (.int .i8 a0), .v (.int .i8 a1), .fa 144 .u8 a2], .v (.int .i64 a3)]) = (cond (decide (a3 ≥ 0)) (some [.v (.bool (s_iPicture_has a0 a1 a2 (Int.tmod a3 12) (IntKind.wrap .i64 (Int.tdiv a3 12))))]) (some [.v (.bool false)])) := by kernel_rfl
noncomputable def l_iPicture_hasNumber (r : Bool) : List A := [.v (.bool r)]
theorem s_iPicture_hasNumber_ok (a0 : Int) (a1 : Int) (a2 : (Nat → Int)) (a3 : Int) : (cond (decide (a3 ≥ 0)) (some [.v (.bool (s_iPicture_has a0 a1 a2 (Int.tmod a3 12) (IntKind.wrap .i64 (Int.tdiv a3 12))))]) (some [.v (.bool false)])) = some (l_iPicture_hasNumber (s_iPicture_hasNumber a0 a1 a2 a3)) := by
  unfold s_iPicture_hasNumber
  exact (cond_app (fun x => some (l_iPicture_hasNumber x)) rfl rfl)
noncomputable def c_iPicture_hasNumber : List A → ACall
  | [.rc [.v (.int .i8 a0), .v (.int .i8 a1), .fa 144 .u8 a2], .v (.int .i64 a3)] => ⟨Bool, some (s_iPicture_hasNumber a0 a1 a2 a3), fun r => .one (.v (.bool r))⟩
  | _ => ACall.fail
theorem f_iPicture_hasNumber_sound : Sound Try.prog 139 c_iPicture_hasNumber := by
  refine sound_good f_iPicture_hasNumber_ctx f_iPicture_hasNumber_LV 2 Try.func139 (c := f_iPicture_hasNumber_c) (by kernel_rfl) (rv := f_iPicture_hasNumber_rv) (by kernel_rfl) (by kernel_rfl) (by kernel_rfl) (by kernel_rfl) fun rs => ?_
  unfold c_iPicture_hasNumber
  split
  · rename_i a0 a1 a2 a3; intro v h; cases h; exact ⟨rfl, l_iPicture_hasNumber (s_iPicture_hasNumber a0 a1 a2 a3), rfl, (f_iPicture_hasNumber_top a0 a1 a2 a3 _).trans (s_iPicture_hasNumber_ok a0 a1 a2 a3)⟩
  · intro v h; cases h

/-! ### function 141: loop.example/g01322/impl.LoseCells$1 -/
noncomputable def f_iLoseCells_1_c : Code := match Try.f141.body with | some c => c | none => .skip
noncomputable def f_iLoseCells_1_X : Ctx := ⟨TT, phiOf [(139, c_iPicture_hasNumber)], noPsi, noXi⟩
def f_iLoseCells_1_LV : List (Nat × Keep) := []
def f_iLoseCells_1_rv : List ResultVar := [.tmp 3]
noncomputable def f_iLoseCells_1_L (r : List A) : Nat → AS → Option (List A) := L f_iLoseCells_1_X (cnOf f_iLoseCells_1_LV) f_iLoseCells_1_c (K0 TT f_iLoseCells_1_rv) r
theorem f_iLoseCells_1_ctx : CtxOK Try.prog f_iLoseCells_1_X := ctx_of tab mix ⟨⟨Try.call139, f_iPicture_hasNumber_sound⟩, trivial⟩
noncomputable def s_iLoseCells_1 (a0 : Int) (a1 : Int) (a2 : Int) (a3 : (Nat → Int)) : Bool := (!(s_iPicture_hasNumber a1 a2 a3 a0))
theorem f_iLoseCells_1_top (a0 : Int) (a1 : Int) (a2 : Int) (a3 : (Nat → Int)) (r : List A) : ev f_iLoseCells_1_X (lpc (cnOf f_iLoseCells_1_LV) (f_iLoseCells_1_L r)) f_iLoseCells_1_c (K0 TT f_iLoseCells_1_rv) (enter [.v (.int .i64 a0), .ref (.rc [.v (.int .i8 a1), .v (.int .i8 a2), .fa 144 .u8 a3])]) = (some [.v (.bool (!(s_iPicture_hasNumber a1 a2 a3 a0)))]) := by kernel_rfl
noncomputable def l_iLoseCells_1 (r : Bool) : List A := [.v (.bool r)]
theorem s_iLoseCells_1_ok (a0 : Int) (a1 : Int) (a2 : Int) (a3 : (Nat → Int)) : (some [.v (.bool (!(s_iPicture_hasNumber a1 a2 a3 a0)))]) = some (l_iLoseCells_1 (s_iLoseCells_1 a0 a1 a2 a3)) := by
  unfold s_iLoseCells_1
  exact rfl
noncomputable def c_iLoseCells_1 : List A → ACall
  | [.v (.int .i64 a0), .ref (.rc [.v (.int .i8 a1), .v (.int .i8 a2), .fa 144 .u8 a3])] => ⟨Bool, some (s_iLoseCells_1 a0 a1 a2 a3), fun r => .one (.v (.bool r))⟩
  | _ => ACall.fail
theorem f_iLoseCells_1_sound : Sound Try.prog 141 c_iLoseCells_1 := by
  refine sound_good f_iLoseCells_1_ctx f_iLoseCells_1_LV 2 Try.func141 (c := f_iLoseCells_1_c) (by kernel_rfl) (rv := f_iLoseCells_1_rv) (by kernel_rfl) (by kernel_rfl) (by kernel_rfl) (by kernel_rfl) fun rs => ?_
  unfold c_iLoseCells_1
  split
  · rename_i a0 a1 a2 a3; intro v h; cases h; exact ⟨rfl, l_iLoseCells_1 (s_iLoseCells_1 a0 a1 a2 a3), rfl, (f_iLoseCells_1_top a0 a1 a2 a3 _).trans (s_iLoseCells_1_ok a0 a1 a2 a3)⟩
  · intro v h; cases h

/-! ### function 168: slices.IndexFunc[[]int64,int64] -/
noncomputable def f_gIndexFunc_int64_a_c : Code := match Try.f168.body with | some c => c | none => .skip
noncomputable def f_gIndexFunc_int64_a_X : Ctx := ⟨TT, phiOf [(141, c_iLoseCells_1)], noPsi, noXi⟩
def f_gIndexFunc_int64_a_LV : List (Nat × Keep) := [(2, ([0, 1, 7, 8], [], []))]
def f_gIndexFunc_int64_a_rv : List ResultVar := [.tmp 4]
noncomputable def f_gIndexFunc_int64_a_L (r : List A) : Nat → AS → Option (List A) := L f_gIndexFunc_int64_a_X (cnOf f_gIndexFunc_int64_a_LV) f_gIndexFunc_int64_a_c (K0 TT f_gIndexFunc_int64_a_rv) r
theorem f_gIndexFunc_int64_a_ctx : CtxOK Try.prog f_gIndexFunc_int64_a_X := ctx_of tab mix ⟨⟨Try.call141, f_iLoseCells_1_sound⟩, trivial⟩
noncomputable def f_gIndexFunc_int64_a_s2 (x0 : Int) (x1 : Int) (x2 : (List Int)) (x3 : Int) (x4 : Int) (x5 : (Nat → Int)) : AS := ⟨[(0, .a (.sl 0)), (1, .a (.clo 141 [.ptr 1 [] (0)])), (7, .a (.v (.int .i64 x0))), (8, .a (.v (.int .i64 x1)))], [(0, some ⟨false, .arr (.one (.i .i64)) x2⟩), (1, some ⟨false, .box (.rc [.v (.int .i8 x3), .v (.int .i8 x4), .fa 144 .u8 x5])⟩)], 2⟩
noncomputable def l_gIndexFunc_int64_a (r : Int) : List A := [.v (.int .i64 r)]
theorem f_gIndexFunc_int64_a_step2 (x0 : Int) (x1 : Int) (x2 : (List Int)) (x3 : Int) (x4 : Int) (x5 : (Nat → Int)) (r : List A) (h : (cond (decide (x1 < x0)) (cond (inB x1 (List.length x2)) (cond (s_iLoseCells_1 (List.getD x2 (Int.toNat x1) 0) x3 x4 x5) (some [.v (.int .i64 x1)]) (f_gIndexFunc_int64_a_L r 2 (f_gIndexFunc_int64_a_s2 x0 (IntKind.wrap .i64 (x1 + 1)) x2 x3 x4 x5))) none) (some [.v (.int .i64 (-1))])) = some r) : f_gIndexFunc_int64_a_L r 2 (f_gIndexFunc_int64_a_s2 x0 x1 x2 x3 x4 x5) = some r :=
  step_of' h (by kernel_rfl)
noncomputable def f_gIndexFunc_int64_a_n2 (x0 : Int) (x1 : Int) (x2 : (List Int)) (x3 : Int) (x4 : Int) (x5 : (Nat → Int)) : Option ((Int × Int × (List Int) × Int × Int × (Nat → Int)) ⊕ Int) := (cond (decide (x1 < x0)) (cond (inB x1 (List.length x2)) (cond (s_iLoseCells_1 (List.getD x2 (Int.toNat x1) 0) x3 x4 x5) (some (Sum.inr x1)) (some (Sum.inl (x0, (IntKind.wrap .i64 (x1 + 1)), x2, x3, x4, x5)))) none) (some (Sum.inr (-1))))
noncomputable def f_gIndexFunc_int64_a_run2 (x : (Int × Int × (List Int) × Int × Int × (Nat → Int))) : Option Int := iter (fun x => f_gIndexFunc_int64_a_n2 x.1 x.2.1 x.2.2.1 x.2.2.2.1 x.2.2.2.2.1 x.2.2.2.2.2) FU x
noncomputable def f_gIndexFunc_int64_a_G2 (r : List A) (x : (Int × Int × (List Int) × Int × Int × (Nat → Int))) : Prop := f_gIndexFunc_int64_a_L r 2 (f_gIndexFunc_int64_a_s2 x.1 x.2.1 x.2.2.1 x.2.2.2.1 x.2.2.2.2.1 x.2.2.2.2.2) = some r
noncomputable def f_gIndexFunc_int64_a_S2 (r : List A) : Int → Prop := fun v => r = l_gIndexFunc_int64_a v
theorem f_gIndexFunc_int64_a_go2 (r : List A) : ∀ x, sem (f_gIndexFunc_int64_a_S2 r) (f_gIndexFunc_int64_a_run2 x) → f_gIndexFunc_int64_a_G2 r x :=
  fun x => iter_sound (step := fun x => f_gIndexFunc_int64_a_n2 x.1 x.2.1 x.2.2.1 x.2.2.2.1 x.2.2.2.2.1 x.2.2.2.2.2) (fun x h => by
    unfold f_gIndexFunc_int64_a_n2 at h
    exact f_gIndexFunc_int64_a_step2 x.1 x.2.1 x.2.2.1 x.2.2.2.1 x.2.2.2.2.1 x.2.2.2.2.2 r ((sem_cond h (fun h => (sem_cond h (fun h => (sem_cond h (fun h => sem_got h fun q => some_eq q) (fun h => sem_got h fun q => q))) (fun h => sem_none h))) (fun h => sem_got h fun q => some_eq q)))) FU x
noncomputable def s_gIndexFunc_int64_a (a0 : (List Int)) (a1 : Int) (a2 : Int) (a3 : (Nat → Int)) : Option Int := (f_gIndexFunc_int64_a_run2 (((List.length a0 : Nat) : Int), 0, a0, a1, a2, a3))
theorem f_gIndexFunc_int64_a_top (a0 : (List Int)) (a1 : Int) (a2 : Int) (a3 : (Nat → Int)) (r : List A) : ev f_gIndexFunc_int64_a_X (lpc (cnOf f_gIndexFunc_int64_a_LV) (f_gIndexFunc_int64_a_L r)) f_gIndexFunc_int64_a_c (K0 TT f_gIndexFunc_int64_a_rv) (enter [.lst (.one (.i .i64)) a0, .clo 141 [.ref (.rc [.v (.int .i8 a1), .v (.int .i8 a2), .fa 144 .u8 a3])]]) = (f_gIndexFunc_int64_a_L r 2 (f_gIndexFunc_int64_a_s2 ((List.length a0 : Nat) : Int) 0 a0 a1 a2 a3)) := by kernel_rfl
theorem s_gIndexFunc_int64_a_ok (a0 : (List Int)) (a1 : Int) (a2 : Int) (a3 : (Nat → Int)) (v : Int) (h : s_gIndexFunc_int64_a a0 a1 a2 a3 = some v) : (f_gIndexFunc_int64_a_L (l_gIndexFunc_int64_a v) 2 (f_gIndexFunc_int64_a_s2 ((List.length a0 : Nat) : Int) 0 a0 a1 a2 a3)) = some (l_gIndexFunc_int64_a v) := by
  unfold s_gIndexFunc_int64_a at h
  have go : ∀ r, sem (fun v => r = l_gIndexFunc_int64_a v) ((f_gIndexFunc_int64_a_run2 (((List.length a0 : Nat) : Int), 0, a0, a1, a2, a3))) → (f_gIndexFunc_int64_a_L r 2 (f_gIndexFunc_int64_a_s2 ((List.length a0 : Nat) : Int) 0 a0 a1 a2 a3)) = some r := fun r h => f_gIndexFunc_int64_a_go2 r _ h
  exact go (l_gIndexFunc_int64_a v) ⟨v, h, rfl⟩
noncomputable def c_gIndexFunc_int64_a : List A → ACall
  | [.lst (.one (.i .i64)) a0, .clo 141 [.ref (.rc [.v (.int .i8 a1), .v (.int .i8 a2), .fa 144 .u8 a3])]] => ⟨Int, s_gIndexFunc_int64_a a0 a1 a2 a3, fun r => .one (.v (.int .i64 r))⟩
  | _ => ACall.fail
theorem f_gIndexFunc_int64_a_sound : Sound Try.prog 168 c_gIndexFunc_int64_a := by
  refine sound_good f_gIndexFunc_int64_a_ctx f_gIndexFunc_int64_a_LV 2 Try.func168 (c := f_gIndexFunc_int64_a_c) (by kernel_rfl) (rv := f_gIndexFunc_int64_a_rv) (by kernel_rfl) (by kernel_rfl) (by kernel_rfl) (by kernel_rfl) fun rs => ?_
  unfold c_gIndexFunc_int64_a
  split
  · rename_i a0 a1 a2 a3; intro v h; exact ⟨rfl, l_gIndexFunc_int64_a v, rfl, (f_gIndexFunc_int64_a_top a0 a1 a2 a3 _).trans (s_gIndexFunc_int64_a_ok a0 a1 a2 a3 v h)⟩
  · intro v h; cases h
def m_gIndexFunc_int64_a : List A → Bool
  | [_, .clo 141 _] => true
  | _ => false

/-! ### function 140: slices.ContainsFunc[[]int64,int64] -/
noncomputable def f_gContainsFunc_int64_a_c : Code := match Try.f140.body with | some c => c | none => .skip
noncomputable def f_gContainsFunc_int64_a_X : Ctx := ⟨TT, phiOf [(168, c_gIndexFunc_int64_a)], noPsi, noXi⟩
def f_gContainsFunc_int64_a_LV : List (Nat × Keep) := []
def f_gContainsFunc_int64_a_rv : List ResultVar := [.tmp 4]
noncomputable def f_gContainsFunc_int64_a_L (r : List A) : Nat → AS → Option (List A) := L f_gContainsFunc_int64_a_X (cnOf f_gContainsFunc_int64_a_LV) f_gContainsFunc_int64_a_c (K0 TT f_gContainsFunc_int64_a_rv) r
theorem f_gContainsFunc_int64_a_ctx : CtxOK Try.prog f_gContainsFunc_int64_a_X := ctx_of tab mix ⟨⟨Try.call168, f_gIndexFunc_int64_a_sound⟩, trivial⟩
noncomputable def s_gContainsFunc_int64_a (a0 : (List Int)) (a1 : Int) (a2 : Int) (a3 : (Nat → Int)) : Option Bool := (Option.bind (s_gIndexFunc_int64_a a0 a1 a2 a3) fun r1 => (some (decide (r1 ≥ 0))))
theorem f_gContainsFunc_int64_a_top (a0 : (List Int)) (a1 : Int) (a2 : Int) (a3 : (Nat → Int)) (r : List A) : ev f_gContainsFunc_int64_a_X (lpc (cnOf f_gContainsFunc_int64_a_LV) (f_gContainsFunc_int64_a_L r)) f_gContainsFunc_int64_a_c (K0 TT f_gContainsFunc_int64_a_rv) (enter [.lst (.one (.i .i64)) a0, .clo 141 [.ref (.rc [.v (.int .i8 a1), .v (.int .i8 a2), .fa 144 .u8 a3])]]) = (Option.bind (s_gIndexFunc_int64_a a0 a1 a2 a3) fun r1 => (some [.v (.bool (decide (r1 ≥ 0)))])) := by kernel_rfl
noncomputable def l_gContainsFunc_int64_a (r : Bool) : List A := [.v (.bool r)]
theorem s_gContainsFunc_int64_a_ok (a0 : (List Int)) (a1 : Int) (a2 : Int) (a3 : (Nat → Int)) (v : Bool) (h : s_gContainsFunc_int64_a a0 a1 a2 a3 = some v) : (Option.bind (s_gIndexFunc_int64_a a0 a1 a2 a3) fun r1 => (some [.v (.bool (decide (r1 ≥ 0)))])) = some (l_gContainsFunc_int64_a v) := by
  have e : (Option.bind (s_gIndexFunc_int64_a a0 a1 a2 a3) fun r1 => (some [.v (.bool (decide (r1 ≥ 0)))])) = Option.map l_gContainsFunc_int64_a (s_gContainsFunc_int64_a a0 a1 a2 a3) := by
    unfold s_gContainsFunc_int64_a
    exact (bind_app fun _ => rfl)
  rw [e, h]; rfl
noncomputable def c_gContainsFunc_int64_a : List A → ACall
  | [.lst (.one (.i .i64)) a0, .clo 141 [.ref (.rc [.v (.int .i8 a1), .v (.int .i8 a2), .fa 144 .u8 a3])]] => ⟨Bool, s_gContainsFunc_int64_a a0 a1 a2 a3, fun r => .one (.v (.bool r))⟩
  | _ => ACall.fail
theorem f_gContainsFunc_int64_a_sound : Sound Try.prog 140 c_gContainsFunc_int64_a := by
  refine sound_good f_gContainsFunc_int64_a_ctx f_gContainsFunc_int64_a_LV 2 Try.func140 (c := f_gContainsFunc_int64_a_c) (by kernel_rfl) (rv := f_gContainsFunc_int64_a_rv) (by kernel_rfl) (by kernel_rfl) (by kernel_rfl) (by kernel_rfl) fun rs => ?_
  unfold c_gContainsFunc_int64_a
  split
  · rename_i a0 a1 a2 a3; intro v h; exact ⟨rfl, l_gContainsFunc_int64_a v, rfl, (f_gContainsFunc_int64_a_top a0 a1 a2 a3 _).trans (s_gContainsFunc_int64_a_ok a0 a1 a2 a3 v h)⟩
  · intro v h; cases h
def m_gContainsFunc_int64_a : List A → Bool
  | [_, .clo 141 _] => true
  | _ => false

/-! ### function 66: loop.example/g01322/impl.LoseCells -/
noncomputable def f_iLoseCells_c : Code := match Try.f66.body with | some c => c | none => .skip
noncomputable def f_iLoseCells_X : Ctx := ⟨TT, phiOf [(140, c_gContainsFunc_int64_a), (73, c_icodeOf), (74, c_iValidPicture)], noPsi, noXi⟩
def f_iLoseCells_LV : List (Nat × Keep) := [(6, ([2, 4, 22, 23, 24], [], []))]
def f_iLoseCells_rv : List ResultVar := [.cell 4 26, .tmp 5]
noncomputable def f_iLoseCells_L (r : List A) : Nat → AS → Option (List A) := L f_iLoseCells_X (cnOf f_iLoseCells_LV) f_iLoseCells_c (K0 TT f_iLoseCells_rv) r
theorem f_iLoseCells_ctx : CtxOK Try.prog f_iLoseCells_X := ctx_of tab mix ⟨⟨Try.call140, f_gContainsFunc_int64_a_sound⟩, ⟨Try.call73, f_icodeOf_sound⟩, ⟨Try.call74, f_iValidPicture_sound⟩, trivial⟩
noncomputable def f_iLoseCells_s6 (x0 : Int) (x1 : Int) (x2 : Int) (x3 : Int) (x4 : (Nat → Int)) (x5 : Int) (x6 : Int) (x7 : (Nat → Int)) (x8 : (List Int)) : AS := ⟨[(2, .a (.ptr 0 [] (0))), (4, .a (.ptr 1 [] (0))), (22, .a (.sl 2)), (23, .a (.v (.int .i64 x0))), (24, .a (.v (.int .i64 x1)))], [(0, some ⟨true, .box (.rc [.v (.int .i8 x2), .v (.int .i8 x3), .fa 144 .u8 x4])⟩), (1, some ⟨true, .box (.rc [.v (.int .i8 x5), .v (.int .i8 x6), .fa 144 .u8 x7])⟩), (2, some ⟨false, .arr (.one (.i .i64)) x8⟩)], 3⟩
noncomputable def l_iLoseCells (r : (Int × Int × (Nat → Int) × Int)) : List A := [.rc [.v (.int .i8 r.1), .v (.int .i8 r.2.1), .fa 144 .u8 r.2.2.1], .v (.int .i64 r.2.2.2)]
theorem f_iLoseCells_step6 (x0 : Int) (x1 : Int) (x2 : Int) (x3 : Int) (x4 : (Nat → Int)) (x5 : Int) (x6 : Int) (x7 : (Nat → Int)) (x8 : (List Int)) (r : List A) (h : (cond (decide (x1 < x0)) (cond (inB x1 (List.length x8)) (cond (inB (List.getD x8 (Int.toNat x1) 0) 144) (f_iLoseCells_L r 6 (f_iLoseCells_s6 x0 (IntKind.wrap .i64 (x1 + 1)) x2 x3 (upd x4 (Int.toNat (List.getD x8 (Int.toNat x1) 0)) 0) x5 x6 x7 x8)) none) none) (some [.rc [.v (.int .i8 x2), .v (.int .i8 x3), .fa 144 .u8 x4], .v (.int .i64 0)])) = some r) : f_iLoseCells_L r 6 (f_iLoseCells_s6 x0 x1 x2 x3 x4 x5 x6 x7 x8) = some r :=
  step_of' h (by kernel_rfl)
noncomputable def f_iLoseCells_n6 (x0 : Int) (x1 : Int) (x2 : Int) (x3 : Int) (x4 : (Nat → Int)) (x5 : Int) (x6 : Int) (x7 : (Nat → Int)) (x8 : (List Int)) : Option ((Int × Int × Int × Int × (Nat → Int) × Int × Int × (Nat → Int) × (List Int)) ⊕ (Int × Int × (Nat → Int) × Int)) := (cond (decide (x1 < x0)) (cond (inB x1 (List.length x8)) (cond (inB (List.getD x8 (Int.toNat x1) 0) 144) (some (Sum.inl (x0, (IntKind.wrap .i64 (x1 + 1)), x2, x3, (upd x4 (Int.toNat (List.getD x8 (Int.toNat x1) 0)) 0), x5, x6, x7, x8))) none) none) (some (Sum.inr (x2, x3, x4, 0))))
noncomputable def f_iLoseCells_run6 (x : (Int × Int × Int × Int × (Nat → Int) × Int × Int × (Nat → Int) × (List Int))) : Option (Int × Int × (Nat → Int) × Int) := iter (fun x => f_iLoseCells_n6 x.1 x.2.1 x.2.2.1 x.2.2.2.1 x.2.2.2.2.1 x.2.2.2.2.2.1 x.2.2.2.2.2.2.1 x.2.2.2.2.2.2.2.1 x.2.2.2.2.2.2.2.2) FU x
noncomputable def f_iLoseCells_G6 (r : List A) (x : (Int × Int × Int × Int × (Nat → Int) × Int × Int × (Nat → Int) × (List Int))) : Prop := f_iLoseCells_L r 6 (f_iLoseCells_s6 x.1 x.2.1 x.2.2.1 x.2.2.2.1 x.2.2.2.2.1 x.2.2.2.2.2.1 x.2.2.2.2.2.2.1 x.2.2.2.2.2.2.2.1 x.2.2.2.2.2.2.2.2) = some r
noncomputable def f_iLoseCells_S6 (r : List A) : (Int × Int × (Nat → Int) × Int) → Prop := fun v => r = l_iLoseCells v
theorem f_iLoseCells_go6 (r : List A) : ∀ x, sem (f_iLoseCells_S6 r) (f_iLoseCells_run6 x) → f_iLoseCells_G6 r x :=
  fun x => iter_sound (step := fun x => f_iLoseCells_n6 x.1 x.2.1 x.2.2.1 x.2.2.2.1 x.2.2.2.2.1 x.2.2.2.2.2.1 x.2.2.2.2.2.2.1 x.2.2.2.2.2.2.2.1 x.2.2.2.2.2.2.2.2) (fun x h => by
    unfold f_iLoseCells_n6 at h
    exact f_iLoseCells_step6 x.1 x.2.1 x.2.2.1 x.2.2.2.1 x.2.2.2.2.1 x.2.2.2.2.2.1 x.2.2.2.2.2.2.1 x.2.2.2.2.2.2.2.1 x.2.2.2.2.2.2.2.2 r ((sem_cond h (fun h => (sem_cond h (fun h => (sem_cond h (fun h => sem_got h fun q => q) (fun h => sem_none h))) (fun h => sem_none h))) (fun h => sem_got h fun q => some_eq q)))) FU x
noncomputable def s_iLoseCells (a0 : Int) (a1 : Int) (a2 : (Nat → Int)) (a3 : (List Int)) : Option (Int × Int × (Nat → Int) × Int) := (Option.bind (s_gContainsFunc_int64_a a3 a0 a1 a2) fun r1 => (cond ((s_icodeOf (s_iValidPicture a0 a1 a2) (!r1)) != 0) (some (0, 0, zF, (s_icodeOf (s_iValidPicture a0 a1 a2) (!r1)))) (f_iLoseCells_run6 (((List.length a3 : Nat) : Int), 0, a0, a1, a2, 0, 0, zF, a3))))
theorem f_iLoseCells_top (a0 : Int) (a1 : Int) (a2 : (Nat → Int)) (a3 : (List Int)) (r : List A) : ev f_iLoseCells_X (lpc (cnOf f_iLoseCells_LV) (f_iLoseCells_L r)) f_iLoseCells_c (K0 TT f_iLoseCells_rv) (enter [.rc [.v (.int .i8 a0), .v (.int .i8 a1), .fa 144 .u8 a2], .lst (.one (.i .i64)) a3]) = (Option.bind (s_gContainsFunc_int64_a a3 a0 a1 a2) fun r1 => (cond ((s_icodeOf (s_iValidPicture a0 a1 a2) (!r1)) != 0) (some [.rc [.v (.int .i8 0), .v (.int .i8 0), .fa 144 .u8 zF], .v (.int .i64 (s_icodeOf (s_iValidPicture a0 a1 a2) (!r1)))]) (f_iLoseCells_L r 6 (f_iLoseCells_s6 ((List.length a3 : Nat) : Int) 0 a0 a1 a2 0 0 zF a3)))) := by kernel_rfl
theorem s_iLoseCells_ok (a0 : Int) (a1 : Int) (a2 : (Nat → Int)) (a3 : (List Int)) (v : (Int × Int × (Nat → Int) × Int)) (h : s_iLoseCells a0 a1 a2 a3 = some v) : (Option.bind (s_gContainsFunc_int64_a a3 a0 a1 a2) fun r1 => (cond ((s_icodeOf (s_iValidPicture a0 a1 a2) (!r1)) != 0) (some [.rc [.v (.int .i8 0), .v (.int .i8 0), .fa 144 .u8 zF], .v (.int .i64 (s_icodeOf (s_iValidPicture a0 a1 a2) (!r1)))]) (f_iLoseCells_L (l_iLoseCells v) 6 (f_iLoseCells_s6 ((List.length a3 : Nat) : Int) 0 a0 a1 a2 0 0 zF a3)))) = some (l_iLoseCells v) := by
  unfold s_iLoseCells at h
  have go : ∀ r, sem (fun v => r = l_iLoseCells v) ((Option.bind (s_gContainsFunc_int64_a a3 a0 a1 a2) fun r1 => (cond ((s_icodeOf (s_iValidPicture a0 a1 a2) (!r1)) != 0) (some (0, 0, zF, (s_icodeOf (s_iValidPicture a0 a1 a2) (!r1)))) (f_iLoseCells_run6 (((List.length a3 : Nat) : Int), 0, a0, a1, a2, 0, 0, zF, a3))))) → (Option.bind (s_gContainsFunc_int64_a a3 a0 a1 a2) fun r1 => (cond ((s_icodeOf (s_iValidPicture a0 a1 a2) (!r1)) != 0) (some [.rc [.v (.int .i8 0), .v (.int .i8 0), .fa 144 .u8 zF], .v (.int .i64 (s_icodeOf (s_iValidPicture a0 a1 a2) (!r1)))]) (f_iLoseCells_L r 6 (f_iLoseCells_s6 ((List.length a3 : Nat) : Int) 0 a0 a1 a2 0 0 zF a3)))) = some r := fun r h => (sem_bind h fun r1 h => (sem_cond h (fun h => sem_got h fun q => some_eq q) (fun h => f_iLoseCells_go6 r _ h)))
  exact go (l_iLoseCells v) ⟨v, h, rfl⟩
noncomputable def c_iLoseCells : List A → ACall
  | [.rc [.v (.int .i8 a0), .v (.int .i8 a1), .fa 144 .u8 a2], .lst (.one (.i .i64)) a3] => ⟨(Int × Int × (Nat → Int) × Int), s_iLoseCells a0 a1 a2 a3, fun r => .tup [.rc [.v (.int .i8 r.1), .v (.int .i8 r.2.1), .fa 144 .u8 r.2.2.1], .v (.int .i64 r.2.2.2)]⟩
  | _ => ACall.fail
theorem f_iLoseCells_sound : Sound Try.prog 66 c_iLoseCells := by
  refine sound_good f_iLoseCells_ctx f_iLoseCells_LV 2 Try.func66 (c := f_iLoseCells_c) (by kernel_rfl) (rv := f_iLoseCells_rv) (by kernel_rfl) (by kernel_rfl) (by kernel_rfl) (by kernel_rfl) fun rs => ?_
  unfold c_iLoseCells
  split
  · rename_i a0 a1 a2 a3; intro v h; exact ⟨rfl, l_iLoseCells v, rfl, (f_iLoseCells_top a0 a1 a2 a3 _).trans (s_iLoseCells_ok a0 a1 a2 a3 v h)⟩
  · intro v h; cases h
end Go.RR
