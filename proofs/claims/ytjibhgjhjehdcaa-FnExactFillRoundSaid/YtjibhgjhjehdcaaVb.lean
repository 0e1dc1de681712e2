/- Pictures: losing cells, filling. -/
import Derived.Test.YtjibhgjhjehdcaaVa
import Derived.Test.YtjibhgjhjehdcaaRw
set_option linter.unusedVariables false
set_option linter.unusedSimpArgs false
set_option maxRecDepth 100000
namespace Go.RR
open Go Go.Proofs

/-! ### function 16: loop.example/g01322/laws.toPicture -/
noncomputable def f_wtoPicture_c : Code := match Try.f16.body with | some c => c | none => .skip
noncomputable def f_wtoPicture_X : Ctx := ⟨TT, phiOf [(58, c_wtoByteA144)], noPsi⟩
def f_wtoPicture_LV : List (Nat × Keep) := []
def f_wtoPicture_rv : List ResultVar := [.cell 2 27]
noncomputable def f_wtoPicture_L (r : List A) : Nat → AS → Option (List A) := L f_wtoPicture_X (cnOf f_wtoPicture_LV) f_wtoPicture_c (K0 TT f_wtoPicture_rv) r
theorem f_wtoPicture_ctx : CtxOK Try.prog f_wtoPicture_X := ctx_of tab mix ⟨⟨Try.call58, f_wtoByteA144_sound⟩, trivial⟩
noncomputable def s_wtoPicture (a0 : Int) (a1 : Int) (a2 : (Nat → Int)) : (Int × Int × (Nat → Int)) := (a0, a1, (s_wtoByteA144 a2))
theorem f_wtoPicture_top (a0 : Int) (a1 : Int) (a2 : (Nat → Int)) (r : List A) : ev f_wtoPicture_X (lpc (cnOf f_wtoPicture_LV) (f_wtoPicture_L r)) f_wtoPicture_c (K0 TT f_wtoPicture_rv) (enter [.rc [.v (.int .i8 a0), .v (.int .i8 a1), .fa 144 .u8 a2]]) = (some [.rc [.v (.int .i8 a0), .v (.int .i8 a1), .fa 144 .u8 (s_wtoByteA144 a2)]]) := by kernel_rfl
noncomputable def l_wtoPicture (r : (Int × Int × (Nat → Int))) : List A := [.rc [.v (.int .i8 r.1), .v (.int .i8 r.2.1), .fa 144 .u8 r.2.2]]
theorem s_wtoPicture_ok (a0 : Int) (a1 : Int) (a2 : (Nat → Int)) : (some [.rc [.v (.int .i8 a0), .v (.int .i8 a1), .fa 144 .u8 (s_wtoByteA144 a2)]]) = some (l_wtoPicture (s_wtoPicture a0 a1 a2)) := by
  unfold s_wtoPicture
  exact rfl
noncomputable def c_wtoPicture : List A → ACall
  | [.rc [.v (.int .i8 a0), .v (.int .i8 a1), .fa 144 .u8 a2]] => ⟨(Int × Int × (Nat → Int)), some (s_wtoPicture a0 a1 a2), fun r => .one (.rc [.v (.int .i8 r.1), .v (.int .i8 r.2.1), .fa 144 .u8 r.2.2])⟩
  | _ => ACall.fail
theorem f_wtoPicture_sound : Sound Try.prog 16 c_wtoPicture := by
  refine sound_good f_wtoPicture_ctx f_wtoPicture_LV 1 Try.func16 (c := f_wtoPicture_c) (by kernel_rfl) (rv := f_wtoPicture_rv) (by kernel_rfl) (by kernel_rfl) (by kernel_rfl) (by kernel_rfl) fun rs => ?_
  unfold c_wtoPicture
  split
  · rename_i a0 a1 a2; intro v h; cases h; exact ⟨rfl, l_wtoPicture (s_wtoPicture a0 a1 a2), rfl, (f_wtoPicture_top a0 a1 a2 _).trans (s_wtoPicture_ok a0 a1 a2)⟩
  · intro v h; cases h

/-! ### function 57: loop.example/g01322/spec.l06Cell -/
noncomputable def f_sl06Cell_c : Code := match Try.f57.body with | some c => c | none => .skip
noncomputable def f_sl06Cell_X : Ctx := ⟨TT, phiOf [(103, c_sl01Is), (86, c_sl00In)], noPsi⟩
def f_sl06Cell_LV : List (Nat × Keep) := []
def f_sl06Cell_rv : List ResultVar := [.tmp 4]
noncomputable def f_sl06Cell_L (r : List A) : Nat → AS → Option (List A) := L f_sl06Cell_X (cnOf f_sl06Cell_LV) f_sl06Cell_c (K0 TT f_sl06Cell_rv) r
theorem f_sl06Cell_ctx : CtxOK Try.prog f_sl06Cell_X := ctx_of tab mix ⟨⟨Try.call103, f_sl01Is_sound⟩, ⟨Try.call86, f_sl00In_sound⟩, trivial⟩
noncomputable def s_sl06Cell (a0 : Int) (a1 : Int) (a2 : (Nat → Int)) (a3 : Int) : Bool := (cond (s_sl00In a3 0 143) (s_sl01Is a0 a1 a2 a3) false)
theorem f_sl06Cell_top (a0 : Int) (a1 : Int) (a2 : (Nat → Int)) (a3 : Int) (r : List A) : ev f_sl06Cell_X (lpc (cnOf f_sl06Cell_LV) (f_sl06Cell_L r)) f_sl06Cell_c (K0 TT f_sl06Cell_rv) (enter [.ref (.rc [.v (.int .i8 a0), .v (.int .i8 a1), .fa 144 .u8 a2]), .v (.int .i64 a3)]) = (cond (s_sl00In a3 0 143) (some [.v (.bool (s_sl01Is a0 a1 a2 a3))]) (some [.v (.bool false)])) := by kernel_rfl
noncomputable def l_sl06Cell (r : Bool) : List A := [.v (.bool r)]
theorem s_sl06Cell_ok (a0 : Int) (a1 : Int) (a2 : (Nat → Int)) (a3 : Int) : (cond (s_sl00In a3 0 143) (some [.v (.bool (s_sl01Is a0 a1 a2 a3))]) (some [.v (.bool false)])) = some (l_sl06Cell (s_sl06Cell a0 a1 a2 a3)) := by
  unfold s_sl06Cell
  exact (cond_app (fun x => some (l_sl06Cell x)) rfl rfl)
noncomputable def c_sl06Cell : List A → ACall
  | [.ref (.rc [.v (.int .i8 a0), .v (.int .i8 a1), .fa 144 .u8 a2]), .v (.int .i64 a3)] => ⟨Bool, some (s_sl06Cell a0 a1 a2 a3), fun r => .one (.v (.bool r))⟩
  | _ => ACall.fail
theorem f_sl06Cell_sound : Sound Try.prog 57 c_sl06Cell := by
  refine sound_good f_sl06Cell_ctx f_sl06Cell_LV 2 Try.func57 (c := f_sl06Cell_c) (by kernel_rfl) (rv := f_sl06Cell_rv) (by kernel_rfl) (by kernel_rfl) (by kernel_rfl) (by kernel_rfl) fun rs => ?_
  unfold c_sl06Cell
  split
  · rename_i a0 a1 a2 a3; intro v h; cases h; exact ⟨rfl, l_sl06Cell (s_sl06Cell a0 a1 a2 a3), rfl, (f_sl06Cell_top a0 a1 a2 a3 _).trans (s_sl06Cell_ok a0 a1 a2 a3)⟩
  · intro v h; cases h

/-! ### function 15: loop.example/g01322/spec.LoseCells -/
noncomputable def f_sLoseCells_c : Code := match Try.f15.body with | some c => c | none => .skip
noncomputable def f_sLoseCells_X : Ctx := ⟨TT, phiOf [(56, c_sl01Ok), (57, c_sl06Cell)], noPsi⟩
def f_sLoseCells_LV : List (Nat × Keep) := [(4, ([1, 2, 4, 6], [], [])), (9, ([1, 2, 4, 7], [], []))]
def f_sLoseCells_rv : List ResultVar := [.cell 4 27, .tmp 5]
noncomputable def f_sLoseCells_L (r : List A) : Nat → AS → Option (List A) := L f_sLoseCells_X (cnOf f_sLoseCells_LV) f_sLoseCells_c (K0 TT f_sLoseCells_rv) r
theorem f_sLoseCells_ctx : CtxOK Try.prog f_sLoseCells_X := ctx_of tab mix ⟨⟨Try.call56, f_sl01Ok_sound⟩, ⟨Try.call57, f_sl06Cell_sound⟩, trivial⟩
noncomputable def f_sLoseCells_s4 (x0 : Int) (x1 : (List Int)) (x2 : Int) (x3 : Int) (x4 : (Nat → Int)) (x5 : Int) (x6 : Int) (x7 : (Nat → Int)) : AS := ⟨[(1, .a (.sl 0)), (2, .a (.ptr 1 [] (0))), (4, .a (.ptr 2 [] (0))), (6, .a (.v (.int .i64 x0)))], [(0, some ⟨false, .arr (.one (.i .i64)) x1⟩), (1, some ⟨true, .box (.rc [.v (.int .i8 x2), .v (.int .i8 x3), .fa 144 .u8 x4])⟩), (2, some ⟨true, .box (.rc [.v (.int .i8 x5), .v (.int .i8 x6), .fa 144 .u8 x7])⟩)], 3⟩
noncomputable def f_sLoseCells_s9 (x0 : Int) (x1 : (List Int)) (x2 : Int) (x3 : Int) (x4 : (Nat → Int)) (x5 : Int) (x6 : Int) (x7 : (Nat → Int)) : AS := ⟨[(1, .a (.sl 0)), (2, .a (.ptr 1 [] (0))), (4, .a (.ptr 2 [] (0))), (7, .a (.v (.int .i64 x0)))], [(0, some ⟨false, .arr (.one (.i .i64)) x1⟩), (1, some ⟨true, .box (.rc [.v (.int .i8 x2), .v (.int .i8 x3), .fa 144 .u8 x4])⟩), (2, some ⟨true, .box (.rc [.v (.int .i8 x5), .v (.int .i8 x6), .fa 144 .u8 x7])⟩)], 3⟩
noncomputable def l_sLoseCells (r : (Int × Int × (Nat → Int) × Int)) : List A := [.rc [.v (.int .i8 r.1), .v (.int .i8 r.2.1), .fa 144 .u8 r.2.2.1], .v (.int .i64 r.2.2.2)]
theorem f_sLoseCells_step9 (x0 : Int) (x1 : (List Int)) (x2 : Int) (x3 : Int) (x4 : (Nat → Int)) (x5 : Int) (x6 : Int) (x7 : (Nat → Int)) (r : List A) (h : (cond (decide (x0 < ((List.length x1 : Nat) : Int))) (cond (inB x0 (List.length x1)) (cond (inB (List.getD x1 (Int.toNat x0) 0) 144) (f_sLoseCells_L r 9 (f_sLoseCells_s9 (IntKind.wrap .i64 (x0 + 1)) x1 x2 x3 (upd x4 (Int.toNat (List.getD x1 (Int.toNat x0) 0)) 0) x5 x6 x7)) none) none) (some [.rc [.v (.int .i8 x2), .v (.int .i8 x3), .fa 144 .u8 x4], .v (.int .i64 0)])) = some r) : f_sLoseCells_L r 9 (f_sLoseCells_s9 x0 x1 x2 x3 x4 x5 x6 x7) = some r :=
  step_of' h (by kernel_rfl)
noncomputable def f_sLoseCells_n9 (x0 : Int) (x1 : (List Int)) (x2 : Int) (x3 : Int) (x4 : (Nat → Int)) (x5 : Int) (x6 : Int) (x7 : (Nat → Int)) : Option ((Int × (List Int) × Int × Int × (Nat → Int) × Int × Int × (Nat → Int)) ⊕ (Int × Int × (Nat → Int) × Int)) := (cond (decide (x0 < ((List.length x1 : Nat) : Int))) (cond (inB x0 (List.length x1)) (cond (inB (List.getD x1 (Int.toNat x0) 0) 144) (some (Sum.inl ((IntKind.wrap .i64 (x0 + 1)), x1, x2, x3, (upd x4 (Int.toNat (List.getD x1 (Int.toNat x0) 0)) 0), x5, x6, x7))) none) none) (some (Sum.inr (x2, x3, x4, 0))))
noncomputable def f_sLoseCells_run9 (x : (Int × (List Int) × Int × Int × (Nat → Int) × Int × Int × (Nat → Int))) : Option (Int × Int × (Nat → Int) × Int) := iter (fun x => f_sLoseCells_n9 x.1 x.2.1 x.2.2.1 x.2.2.2.1 x.2.2.2.2.1 x.2.2.2.2.2.1 x.2.2.2.2.2.2.1 x.2.2.2.2.2.2.2) FU x
noncomputable def f_sLoseCells_G9 (r : List A) (x : (Int × (List Int) × Int × Int × (Nat → Int) × Int × Int × (Nat → Int))) : Prop := f_sLoseCells_L r 9 (f_sLoseCells_s9 x.1 x.2.1 x.2.2.1 x.2.2.2.1 x.2.2.2.2.1 x.2.2.2.2.2.1 x.2.2.2.2.2.2.1 x.2.2.2.2.2.2.2) = some r
theorem f_sLoseCells_step4 (x0 : Int) (x1 : (List Int)) (x2 : Int) (x3 : Int) (x4 : (Nat → Int)) (x5 : Int) (x6 : Int) (x7 : (Nat → Int)) (r : List A) (h : (cond (decide (x0 < ((List.length x1 : Nat) : Int))) (cond (inB x0 (List.length x1)) (cond (!(s_sl06Cell x2 x3 x4 (List.getD x1 (Int.toNat x0) 0))) (some [.rc [.v (.int .i8 0), .v (.int .i8 0), .fa 144 .u8 zF], .v (.int .i64 2)]) (f_sLoseCells_L r 4 (f_sLoseCells_s4 (IntKind.wrap .i64 (x0 + 1)) x1 x2 x3 x4 x5 x6 x7))) none) (f_sLoseCells_L r 9 (f_sLoseCells_s9 0 x1 x2 x3 x4 x5 x6 x7))) = some r) : f_sLoseCells_L r 4 (f_sLoseCells_s4 x0 x1 x2 x3 x4 x5 x6 x7) = some r :=
  step_of' h (by kernel_rfl)
noncomputable def f_sLoseCells_n4 (x0 : Int) (x1 : (List Int)) (x2 : Int) (x3 : Int) (x4 : (Nat → Int)) (x5 : Int) (x6 : Int) (x7 : (Nat → Int)) : Option ((Int × (List Int) × Int × Int × (Nat → Int) × Int × Int × (Nat → Int)) ⊕ (Int × Int × (Nat → Int) × Int)) := (cond (decide (x0 < ((List.length x1 : Nat) : Int))) (cond (inB x0 (List.length x1)) (cond (!(s_sl06Cell x2 x3 x4 (List.getD x1 (Int.toNat x0) 0))) (some (Sum.inr (0, 0, zF, 2))) (some (Sum.inl ((IntKind.wrap .i64 (x0 + 1)), x1, x2, x3, x4, x5, x6, x7)))) none) (Option.map (fun x => (Sum.inr x)) (f_sLoseCells_run9 (0, x1, x2, x3, x4, x5, x6, x7))))
noncomputable def f_sLoseCells_run4 (x : (Int × (List Int) × Int × Int × (Nat → Int) × Int × Int × (Nat → Int))) : Option (Int × Int × (Nat → Int) × Int) := iter (fun x => f_sLoseCells_n4 x.1 x.2.1 x.2.2.1 x.2.2.2.1 x.2.2.2.2.1 x.2.2.2.2.2.1 x.2.2.2.2.2.2.1 x.2.2.2.2.2.2.2) FU x
noncomputable def f_sLoseCells_G4 (r : List A) (x : (Int × (List Int) × Int × Int × (Nat → Int) × Int × Int × (Nat → Int))) : Prop := f_sLoseCells_L r 4 (f_sLoseCells_s4 x.1 x.2.1 x.2.2.1 x.2.2.2.1 x.2.2.2.2.1 x.2.2.2.2.2.1 x.2.2.2.2.2.2.1 x.2.2.2.2.2.2.2) = some r
noncomputable def f_sLoseCells_S9 (r : List A) : (Int × Int × (Nat → Int) × Int) → Prop := fun v => r = l_sLoseCells v
noncomputable def f_sLoseCells_S4 (r : List A) : (Int × Int × (Nat → Int) × Int) → Prop := fun v => r = l_sLoseCells v
theorem f_sLoseCells_go9 (r : List A) : ∀ x, sem (f_sLoseCells_S9 r) (f_sLoseCells_run9 x) → f_sLoseCells_G9 r x :=
  fun x => iter_sound (step := fun x => f_sLoseCells_n9 x.1 x.2.1 x.2.2.1 x.2.2.2.1 x.2.2.2.2.1 x.2.2.2.2.2.1 x.2.2.2.2.2.2.1 x.2.2.2.2.2.2.2) (fun x h => by
    unfold f_sLoseCells_n9 at h
    exact f_sLoseCells_step9 x.1 x.2.1 x.2.2.1 x.2.2.2.1 x.2.2.2.2.1 x.2.2.2.2.2.1 x.2.2.2.2.2.2.1 x.2.2.2.2.2.2.2 r ((sem_cond h (fun h => (sem_cond h (fun h => (sem_cond h (fun h => sem_got h fun q => q) (fun h => sem_none h))) (fun h => sem_none h))) (fun h => sem_got h fun q => some_eq q)))) FU x
theorem f_sLoseCells_go4 (r : List A) : ∀ x, sem (f_sLoseCells_S4 r) (f_sLoseCells_run4 x) → f_sLoseCells_G4 r x :=
  fun x => iter_sound (step := fun x => f_sLoseCells_n4 x.1 x.2.1 x.2.2.1 x.2.2.2.1 x.2.2.2.2.1 x.2.2.2.2.2.1 x.2.2.2.2.2.2.1 x.2.2.2.2.2.2.2) (fun x h => by
    unfold f_sLoseCells_n4 at h
    exact f_sLoseCells_step4 x.1 x.2.1 x.2.2.1 x.2.2.2.1 x.2.2.2.2.1 x.2.2.2.2.2.1 x.2.2.2.2.2.2.1 x.2.2.2.2.2.2.2 r ((sem_cond h (fun h => (sem_cond h (fun h => (sem_cond h (fun h => sem_got h fun q => some_eq q) (fun h => sem_got h fun q => q))) (fun h => sem_none h))) (fun h => f_sLoseCells_go9 r _ (sem_mapk h fun _ q => q))))) FU x
noncomputable def s_sLoseCells (a0 : Int) (a1 : Int) (a2 : (Nat → Int)) (a3 : (List Int)) : Option (Int × Int × (Nat → Int) × Int) := (cond (!(s_sl01Ok a0 a1 a2)) (some (0, 0, zF, 1)) (f_sLoseCells_run4 (0, a3, a0, a1, a2, 0, 0, zF)))
theorem f_sLoseCells_top (a0 : Int) (a1 : Int) (a2 : (Nat → Int)) (a3 : (List Int)) (r : List A) : ev f_sLoseCells_X (lpc (cnOf f_sLoseCells_LV) (f_sLoseCells_L r)) f_sLoseCells_c (K0 TT f_sLoseCells_rv) (enter [.rc [.v (.int .i8 a0), .v (.int .i8 a1), .fa 144 .u8 a2], .lst (.one (.i .i64)) a3]) = (cond (!(s_sl01Ok a0 a1 a2)) (some [.rc [.v (.int .i8 0), .v (.int .i8 0), .fa 144 .u8 zF], .v (.int .i64 1)]) (f_sLoseCells_L r 4 (f_sLoseCells_s4 0 a3 a0 a1 a2 0 0 zF))) := by kernel_rfl
theorem s_sLoseCells_ok (a0 : Int) (a1 : Int) (a2 : (Nat → Int)) (a3 : (List Int)) (v : (Int × Int × (Nat → Int) × Int)) (h : s_sLoseCells a0 a1 a2 a3 = some v) : (cond (!(s_sl01Ok a0 a1 a2)) (some [.rc [.v (.int .i8 0), .v (.int .i8 0), .fa 144 .u8 zF], .v (.int .i64 1)]) (f_sLoseCells_L (l_sLoseCells v) 4 (f_sLoseCells_s4 0 a3 a0 a1 a2 0 0 zF))) = some (l_sLoseCells v) := by
  unfold s_sLoseCells at h
  have go : ∀ r, sem (fun v => r = l_sLoseCells v) ((cond (!(s_sl01Ok a0 a1 a2)) (some (0, 0, zF, 1)) (f_sLoseCells_run4 (0, a3, a0, a1, a2, 0, 0, zF)))) → (cond (!(s_sl01Ok a0 a1 a2)) (some [.rc [.v (.int .i8 0), .v (.int .i8 0), .fa 144 .u8 zF], .v (.int .i64 1)]) (f_sLoseCells_L r 4 (f_sLoseCells_s4 0 a3 a0 a1 a2 0 0 zF))) = some r := fun r h => (sem_cond h (fun h => sem_got h fun q => some_eq q) (fun h => f_sLoseCells_go4 r _ h))
  exact go (l_sLoseCells v) ⟨v, h, rfl⟩
noncomputable def c_sLoseCells : List A → ACall
  | [.rc [.v (.int .i8 a0), .v (.int .i8 a1), .fa 144 .u8 a2], .lst (.one (.i .i64)) a3] => ⟨(Int × Int × (Nat → Int) × Int), s_sLoseCells a0 a1 a2 a3, fun r => .tup [.rc [.v (.int .i8 r.1), .v (.int .i8 r.2.1), .fa 144 .u8 r.2.2.1], .v (.int .i64 r.2.2.2)]⟩
  | _ => ACall.fail
theorem f_sLoseCells_sound : Sound Try.prog 15 c_sLoseCells := by
  refine sound_good f_sLoseCells_ctx f_sLoseCells_LV 2 Try.func15 (c := f_sLoseCells_c) (by kernel_rfl) (rv := f_sLoseCells_rv) (by kernel_rfl) (by kernel_rfl) (by kernel_rfl) (by kernel_rfl) fun rs => ?_
  unfold c_sLoseCells
  split
  · rename_i a0 a1 a2 a3; intro v h; exact ⟨rfl, l_sLoseCells v, rfl, (f_sLoseCells_top a0 a1 a2 a3 _).trans (s_sLoseCells_ok a0 a1 a2 a3 v h)⟩
  · intro v h; cases h

/-! ### function 61: (loop.example/g01322/impl.Picture).hasNumber -/
noncomputable def f_iPicture_hasNumber_c : Code := match Try.f61.body with | some c => c | none => .skip
noncomputable def f_iPicture_hasNumber_X : Ctx := ⟨TT, phiOf [(105, c_iPicture_has)], noPsi⟩
def f_iPicture_hasNumber_LV : List (Nat × Keep) := []
def f_iPicture_hasNumber_rv : List ResultVar := [.tmp 4]
noncomputable def f_iPicture_hasNumber_L (r : List A) : Nat → AS → Option (List A) := L f_iPicture_hasNumber_X (cnOf f_iPicture_hasNumber_LV) f_iPicture_hasNumber_c (K0 TT f_iPicture_hasNumber_rv) r
theorem f_iPicture_hasNumber_ctx : CtxOK Try.prog f_iPicture_hasNumber_X := ctx_of tab mix ⟨⟨Try.call105, f_iPicture_has_sound⟩, trivial⟩
noncomputable def s_iPicture_hasNumber (a0 : Int) (a1 : Int) (a2 : (Nat → Int)) (a3 : Int) : Bool := (cond (decide (a3 ≥ 0)) (s_iPicture_has a0 a1 a2 (Int.tmod a3 12) (IntKind.wrap .i64 (Int.tdiv a3 12))) false)
theorem f_iPicture_hasNumber_top (a0 : Int) (a1 : Int) (a2 : (Nat → Int)) (a3 : Int) (r : List A) : ev f_iPicture_hasNumber_X (lpc (cnOf f_iPicture_hasNumber_LV) (f_iPicture_hasNumber_L r)) f_iPicture_hasNumber_c (K0 TT f_iPicture_hasNumber_rv) (enter [.rc [.v (.int .i8 a0), .v (.int .i8 a1), .fa 144 .u8 a2], .v (.int .i64 a3)]) = (cond (decide (a3 ≥ 0)) (some [.v (.bool (s_iPicture_has a0 a1 a2 (Int.tmod a3 12) (IntKind.wrap .i64 (Int.tdiv a3 12))))]) (some [.v (.bool false)])) := by kernel_rfl
noncomputable def l_iPicture_hasNumber (r : Bool) : List A := [.v (.bool r)]
theorem s_iPicture_hasNumber_ok (a0 : Int) (a1 : Int) (a2 : (Nat → Int)) (a3 : Int) : (cond (decide (a3 ≥ 0)) (some [.v (.bool (s_iPicture_has a0 a1 a2 (Int.tmod a3 12) (IntKind.wrap .i64 (Int.tdiv a3 12))))]) (some [.v (.bool false)])) = some (l_iPicture_hasNumber (s_iPicture_hasNumber a0 a1 a2 a3)) := by
  unfold s_iPicture_hasNumber
  exact (cond_app (fun x => some (l_iPicture_hasNumber x)) rfl rfl)
noncomputable def c_iPicture_hasNumber : List A → ACall
  | [.rc [.v (.int .i8 a0), .v (.int .i8 a1), .fa 144 .u8 a2], .v (.int .i64 a3)] => ⟨Bool, some (s_iPicture_hasNumber a0 a1 a2 a3), fun r => .one (.v (.bool r))⟩
  | _ => ACall.fail
theorem f_iPicture_hasNumber_sound : Sound Try.prog 61 c_iPicture_hasNumber := by
  refine sound_good f_iPicture_hasNumber_ctx f_iPicture_hasNumber_LV 2 Try.func61 (c := f_iPicture_hasNumber_c) (by kernel_rfl) (rv := f_iPicture_hasNumber_rv) (by kernel_rfl) (by kernel_rfl) (by kernel_rfl) (by kernel_rfl) fun rs => ?_
  unfold c_iPicture_hasNumber
  split
  · rename_i a0 a1 a2 a3; intro v h; cases h; exact ⟨rfl, l_iPicture_hasNumber (s_iPicture_hasNumber a0 a1 a2 a3), rfl, (f_iPicture_hasNumber_top a0 a1 a2 a3 _).trans (s_iPicture_hasNumber_ok a0 a1 a2 a3)⟩
  · intro v h; cases h

/-! ### function 60: loop.example/g01322/impl.LoseCells$1 -/
noncomputable def f_iLoseCells_1_c : Code := match Try.f60.body with | some c => c | none => .skip
noncomputable def f_iLoseCells_1_X : Ctx := ⟨TT, phiOf [(61, c_iPicture_hasNumber)], noPsi⟩
def f_iLoseCells_1_LV : List (Nat × Keep) := []
def f_iLoseCells_1_rv : List ResultVar := [.tmp 3]
noncomputable def f_iLoseCells_1_L (r : List A) : Nat → AS → Option (List A) := L f_iLoseCells_1_X (cnOf f_iLoseCells_1_LV) f_iLoseCells_1_c (K0 TT f_iLoseCells_1_rv) r
theorem f_iLoseCells_1_ctx : CtxOK Try.prog f_iLoseCells_1_X := ctx_of tab mix ⟨⟨Try.call61, f_iPicture_hasNumber_sound⟩, trivial⟩
noncomputable def s_iLoseCells_1 (a0 : Int) (a1 : Int) (a2 : Int) (a3 : (Nat → Int)) : Bool := (!(s_iPicture_hasNumber a1 a2 a3 a0))
theorem f_iLoseCells_1_top (a0 : Int) (a1 : Int) (a2 : Int) (a3 : (Nat → Int)) (r : List A) : ev f_iLoseCells_1_X (lpc (cnOf f_iLoseCells_1_LV) (f_iLoseCells_1_L r)) f_iLoseCells_1_c (K0 TT f_iLoseCells_1_rv) (enter [.v (.int .i64 a0), .ref (.rc [.v (.int .i8 a1), .v (.int .i8 a2), .fa 144 .u8 a3])]) = (some [.v (.bool (!(s_iPicture_hasNumber a1 a2 a3 a0)))]) := by kernel_rfl
noncomputable def l_iLoseCells_1 (r : Bool) : List A := [.v (.bool r)]
theorem s_iLoseCells_1_ok (a0 : Int) (a1 : Int) (a2 : Int) (a3 : (Nat → Int)) : (some [.v (.bool (!(s_iPicture_hasNumber a1 a2 a3 a0)))]) = some (l_iLoseCells_1 (s_iLoseCells_1 a0 a1 a2 a3)) := by
  unfold s_iLoseCells_1
  exact rfl
noncomputable def c_iLoseCells_1 : List A → ACall
  | [.v (.int .i64 a0), .ref (.rc [.v (.int .i8 a1), .v (.int .i8 a2), .fa 144 .u8 a3])] => ⟨Bool, some (s_iLoseCells_1 a0 a1 a2 a3), fun r => .one (.v (.bool r))⟩
  | _ => ACall.fail
theorem f_iLoseCells_1_sound : Sound Try.prog 60 c_iLoseCells_1 := by
  refine sound_good f_iLoseCells_1_ctx f_iLoseCells_1_LV 2 Try.func60 (c := f_iLoseCells_1_c) (by kernel_rfl) (rv := f_iLoseCells_1_rv) (by kernel_rfl) (by kernel_rfl) (by kernel_rfl) (by kernel_rfl) fun rs => ?_
  unfold c_iLoseCells_1
  split
  · rename_i a0 a1 a2 a3; intro v h; cases h; exact ⟨rfl, l_iLoseCells_1 (s_iLoseCells_1 a0 a1 a2 a3), rfl, (f_iLoseCells_1_top a0 a1 a2 a3 _).trans (s_iLoseCells_1_ok a0 a1 a2 a3)⟩
  · intro v h; cases h

/-! ### function 104: slices.IndexFunc[[]int64,int64] -/
noncomputable def f_gIndexFunc_int64_a_c : Code := match Try.f104.body with | some c => c | none => .skip
noncomputable def f_gIndexFunc_int64_a_X : Ctx := ⟨TT, phiOf [(60, c_iLoseCells_1)], noPsi⟩
def f_gIndexFunc_int64_a_LV : List (Nat × Keep) := [(2, ([0, 1, 7, 8], [], []))]
def f_gIndexFunc_int64_a_rv : List ResultVar := [.tmp 4]
noncomputable def f_gIndexFunc_int64_a_L (r : List A) : Nat → AS → Option (List A) := L f_gIndexFunc_int64_a_X (cnOf f_gIndexFunc_int64_a_LV) f_gIndexFunc_int64_a_c (K0 TT f_gIndexFunc_int64_a_rv) r
theorem f_gIndexFunc_int64_a_ctx : CtxOK Try.prog f_gIndexFunc_int64_a_X := ctx_of tab mix ⟨⟨Try.call60, f_iLoseCells_1_sound⟩, trivial⟩
noncomputable def f_gIndexFunc_int64_a_s2 (x0 : Int) (x1 : Int) (x2 : (List Int)) (x3 : Int) (x4 : Int) (x5 : (Nat → Int)) : AS := ⟨[(0, .a (.sl 0)), (1, .a (.clo 60 [.ptr 1 [] (0)])), (7, .a (.v (.int .i64 x0))), (8, .a (.v (.int .i64 x1)))], [(0, some ⟨false, .arr (.one (.i .i64)) x2⟩), (1, some ⟨false, .box (.rc [.v (.int .i8 x3), .v (.int .i8 x4), .fa 144 .u8 x5])⟩)], 2⟩
noncomputable def l_gIndexFunc_int64_a (r : Int) : List A := [.v (.int .i64 r)]
theorem f_gIndexFunc_int64_a_step2 (x0 : Int) (x1 : Int) (x2 : (List Int)) (x3 : Int) (x4 : Int) (x5 : (Nat → Int)) (r : List A) (h : (cond (decide (x1 < x0)) (cond (inB x1 (List.length x2)) (cond (s_iLoseCells_1 (List.getD x2 (Int.toNat x1) 0) x3 x4 x5) (some [.v (.int .i64 x1)]) (f_gIndexFunc_int64_a_L r 2 (f_gIndexFunc_int64_a_s2 x0 (IntKind.wrap .i64 (x1 + 1)) x2 x3 x4 x5))) none) (some [.v (.int .i64 (-1))])) = some r) : f_gIndexFunc_int64_a_L r 2 (f_gIndexFunc_int64_a_s2 x0 x1 x2 x3 x4 x5) = some r :=
  step_of' h (by kernel_rfl)
noncomputable def f_gIndexFunc_int64_a_n2 (x0 : Int) (x1 : Int) (x2 : (List Int)) (x3 : Int) (x4 : Int) (x5 : (Nat → Int)) : Option ((Int × Int × (List Int) × Int × Int × (Nat → Int)) ⊕ Int) := (cond (decide (x1 < x0)) (cond (inB x1 (List.length x2)) (cond (s_iLoseCells_1 (List.getD x2 (Int.toNat x1) 0) x3 x4 x5) (some (Sum.inr x1)) (some (Sum.inl (x0, (IntKind.wrap .i64 (x1 + 1)), x2, x3, x4, x5)))) none) (some (Sum.inr (-1))))
noncomputable def f_gIndexFunc_int64_a_run2 (x : (Int × Int × (List Int) × Int × Int × (Nat → Int))) : Option Int := iter (fun x => f_gIndexFunc_int64_a_n2 x.1 x.2.1 x.2.2.1 x.2.2.2.1 x.2.2.2.2.1 x.2.2.2.2.2) FU x
noncomputable def f_gIndexFunc_int64_a_G2 (r : List A) (x : (Int × Int × (List Int) × Int × Int × (Nat → Int))) : Prop := f_gIndexFunc_int64_a_L r 2 (f_gIndexFunc_int64_a_s2 x.1 x.2.1 x.2.2.1 x.2.2.2.1 x.2.2.2.2.1 x.2.2.2.2.2) = some r
noncomputable def f_gIndexFunc_int64_a_S2 (r : List A) : Int → Prop := fun v => r = l_gIndexFunc_int64_a v
theorem f_gIndexFunc_int64_a_go2 (r : List A) : ∀ x, sem (f_gIndexFunc_int64_a_S2 r) (f_gIndexFunc_int64_a_run2 x) → f_gIndexFunc_int64_a_G2 r x :=
  fun x => iter_sound (step := fun x => f_gIndexFunc_int64_a_n2 x.1 x.2.1 x.2.2.1 x.2.2.2.1 x.2.2.2.2.1 x.2.2.2.2.2) (fun x h => by
    unfold f_gIndexFunc_int64_a_n2 at h
    exact f_gIndexFunc_int64_a_step2 x.1 x.2.1 x.2.2.1 x.2.2.2.1 x.2.2.2.2.1 x.2.2.2.2.2 r ((sem_cond h (fun h => (sem_cond h (fun h => (sem_cond h (fun h => sem_got h fun q => some_eq q) (fun h => sem_got h fun q => q))) (fun h => sem_none h))) (fun h => sem_got h fun q => some_eq q)))) FU x
noncomputable def s_gIndexFunc_int64_a (a0 : (List Int)) (a1 : Int) (a2 : Int) (a3 : (Nat → Int)) : Option Int := (f_gIndexFunc_int64_a_run2 (((List.length a0 : Nat) : Int), 0, a0, a1, a2, a3))
theorem f_gIndexFunc_int64_a_top (a0 : (List Int)) (a1 : Int) (a2 : Int) (a3 : (Nat → Int)) (r : List A) : ev f_gIndexFunc_int64_a_X (lpc (cnOf f_gIndexFunc_int64_a_LV) (f_gIndexFunc_int64_a_L r)) f_gIndexFunc_int64_a_c (K0 TT f_gIndexFunc_int64_a_rv) (enter [.lst (.one (.i .i64)) a0, .clo 60 [.ref (.rc [.v (.int .i8 a1), .v (.int .i8 a2), .fa 144 .u8 a3])]]) = (f_gIndexFunc_int64_a_L r 2 (f_gIndexFunc_int64_a_s2 ((List.length a0 : Nat) : Int) 0 a0 a1 a2 a3)) := by kernel_rfl
theorem s_gIndexFunc_int64_a_ok (a0 : (List Int)) (a1 : Int) (a2 : Int) (a3 : (Nat → Int)) (v : Int) (h : s_gIndexFunc_int64_a a0 a1 a2 a3 = some v) : (f_gIndexFunc_int64_a_L (l_gIndexFunc_int64_a v) 2 (f_gIndexFunc_int64_a_s2 ((List.length a0 : Nat) : Int) 0 a0 a1 a2 a3)) = some (l_gIndexFunc_int64_a v) := by
  unfold s_gIndexFunc_int64_a at h
  have go : ∀ r, sem (fun v => r = l_gIndexFunc_int64_a v) ((f_gIndexFunc_int64_a_run2 (((List.length a0 : Nat) : Int), 0, a0, a1, a2, a3))) → (f_gIndexFunc_int64_a_L r 2 (f_gIndexFunc_int64_a_s2 ((List.length a0 : Nat) : Int) 0 a0 a1 a2 a3)) = some r := fun r h => f_gIndexFunc_int64_a_go2 r _ h
  exact go (l_gIndexFunc_int64_a v) ⟨v, h, rfl⟩
noncomputable def c_gIndexFunc_int64_a : List A → ACall
  | [.lst (.one (.i .i64)) a0, .clo 60 [.ref (.rc [.v (.int .i8 a1), .v (.int .i8 a2), .fa 144 .u8 a3])]] => ⟨Int, s_gIndexFunc_int64_a a0 a1 a2 a3, fun r => .one (.v (.int .i64 r))⟩
  | _ => ACall.fail
theorem f_gIndexFunc_int64_a_sound : Sound Try.prog 104 c_gIndexFunc_int64_a := by
  refine sound_good f_gIndexFunc_int64_a_ctx f_gIndexFunc_int64_a_LV 2 Try.func104 (c := f_gIndexFunc_int64_a_c) (by kernel_rfl) (rv := f_gIndexFunc_int64_a_rv) (by kernel_rfl) (by kernel_rfl) (by kernel_rfl) (by kernel_rfl) fun rs => ?_
  unfold c_gIndexFunc_int64_a
  split
  · rename_i a0 a1 a2 a3; intro v h; exact ⟨rfl, l_gIndexFunc_int64_a v, rfl, (f_gIndexFunc_int64_a_top a0 a1 a2 a3 _).trans (s_gIndexFunc_int64_a_ok a0 a1 a2 a3 v h)⟩
  · intro v h; cases h
def m_gIndexFunc_int64_a : List A → Bool
  | [_, .clo 60 _] => true
  | _ => false

/-! ### function 59: slices.ContainsFunc[[]int64,int64] -/
noncomputable def f_gContainsFunc_int64_a_c : Code := match Try.f59.body with | some c => c | none => .skip
noncomputable def f_gContainsFunc_int64_a_X : Ctx := ⟨TT, phiOf [(104, c_gIndexFunc_int64_a)], noPsi⟩
def f_gContainsFunc_int64_a_LV : List (Nat × Keep) := []
def f_gContainsFunc_int64_a_rv : List ResultVar := [.tmp 4]
noncomputable def f_gContainsFunc_int64_a_L (r : List A) : Nat → AS → Option (List A) := L f_gContainsFunc_int64_a_X (cnOf f_gContainsFunc_int64_a_LV) f_gContainsFunc_int64_a_c (K0 TT f_gContainsFunc_int64_a_rv) r
theorem f_gContainsFunc_int64_a_ctx : CtxOK Try.prog f_gContainsFunc_int64_a_X := ctx_of tab mix ⟨⟨Try.call104, f_gIndexFunc_int64_a_sound⟩, trivial⟩
noncomputable def s_gContainsFunc_int64_a (a0 : (List Int)) (a1 : Int) (a2 : Int) (a3 : (Nat → Int)) : Option Bool := (Option.bind (s_gIndexFunc_int64_a a0 a1 a2 a3) fun r1 => (some (decide (r1 ≥ 0))))
theorem f_gContainsFunc_int64_a_top (a0 : (List Int)) (a1 : Int) (a2 : Int) (a3 : (Nat → Int)) (r : List A) : ev f_gContainsFunc_int64_a_X (lpc (cnOf f_gContainsFunc_int64_a_LV) (f_gContainsFunc_int64_a_L r)) f_gContainsFunc_int64_a_c (K0 TT f_gContainsFunc_int64_a_rv) (enter [.lst (.one (.i .i64)) a0, .clo 60 [.ref (.rc [.v (.int .i8 a1), .v (.int .i8 a2), .fa 144 .u8 a3])]]) = (Option.bind (s_gIndexFunc_int64_a a0 a1 a2 a3) fun r1 => (some [.v (.bool (decide (r1 ≥ 0)))])) := by kernel_rfl
noncomputable def l_gContainsFunc_int64_a (r : Bool) : List A := [.v (.bool r)]
theorem s_gContainsFunc_int64_a_ok (a0 : (List Int)) (a1 : Int) (a2 : Int) (a3 : (Nat → Int)) (v : Bool) (h : s_gContainsFunc_int64_a a0 a1 a2 a3 = some v) : (Option.bind (s_gIndexFunc_int64_a a0 a1 a2 a3) fun r1 => (some [.v (.bool (decide (r1 ≥ 0)))])) = some (l_gContainsFunc_int64_a v) := by
  have e : (Option.bind (s_gIndexFunc_int64_a a0 a1 a2 a3) fun r1 => (some [.v (.bool (decide (r1 ≥ 0)))])) = Option.map l_gContainsFunc_int64_a (s_gContainsFunc_int64_a a0 a1 a2 a3) := by
    unfold s_gContainsFunc_int64_a
    exact (bind_app fun _ => rfl)
  rw [e, h]; rfl
noncomputable def c_gContainsFunc_int64_a : List A → ACall
  | [.lst (.one (.i .i64)) a0, .clo 60 [.ref (.rc [.v (.int .i8 a1), .v (.int .i8 a2), .fa 144 .u8 a3])]] => ⟨Bool, s_gContainsFunc_int64_a a0 a1 a2 a3, fun r => .one (.v (.bool r))⟩
  | _ => ACall.fail
theorem f_gContainsFunc_int64_a_sound : Sound Try.prog 59 c_gContainsFunc_int64_a := by
  refine sound_good f_gContainsFunc_int64_a_ctx f_gContainsFunc_int64_a_LV 2 Try.func59 (c := f_gContainsFunc_int64_a_c) (by kernel_rfl) (rv := f_gContainsFunc_int64_a_rv) (by kernel_rfl) (by kernel_rfl) (by kernel_rfl) (by kernel_rfl) fun rs => ?_
  unfold c_gContainsFunc_int64_a
  split
  · rename_i a0 a1 a2 a3; intro v h; exact ⟨rfl, l_gContainsFunc_int64_a v, rfl, (f_gContainsFunc_int64_a_top a0 a1 a2 a3 _).trans (s_gContainsFunc_int64_a_ok a0 a1 a2 a3 v h)⟩
  · intro v h; cases h
def m_gContainsFunc_int64_a : List A → Bool
  | [_, .clo 60 _] => true
  | _ => false

/-! ### function 18: loop.example/g01322/impl.LoseCells -/
noncomputable def f_iLoseCells_c : Code := match Try.f18.body with | some c => c | none => .skip
noncomputable def f_iLoseCells_X : Ctx := ⟨TT, phiOf [(59, c_gContainsFunc_int64_a), (62, c_icodeOf), (63, c_iValidPicture)], noPsi⟩
def f_iLoseCells_LV : List (Nat × Keep) := [(6, ([2, 4, 22, 23, 24], [], []))]
def f_iLoseCells_rv : List ResultVar := [.cell 4 27, .tmp 5]
noncomputable def f_iLoseCells_L (r : List A) : Nat → AS → Option (List A) := L f_iLoseCells_X (cnOf f_iLoseCells_LV) f_iLoseCells_c (K0 TT f_iLoseCells_rv) r
theorem f_iLoseCells_ctx : CtxOK Try.prog f_iLoseCells_X := ctx_of tab mix ⟨⟨Try.call59, f_gContainsFunc_int64_a_sound⟩, ⟨Try.call62, f_icodeOf_sound⟩, ⟨Try.call63, f_iValidPicture_sound⟩, trivial⟩
noncomputable def f_iLoseCells_s6 (x0 : Int) (x1 : Int) (x2 : Int) (x3 : Int) (x4 : (Nat → Int)) (x5 : Int) (x6 : Int) (x7 : (Nat → Int)) (x8 : (List Int)) : AS := ⟨[(2, .a (.ptr 0 [] (0))), (4, .a (.ptr 1 [] (0))), (22, .a (.sl 2)), (23, .a (.v (.int .i64 x0))), (24, .a (.v (.int .i64 x1)))], [(0, some ⟨true, .box (.rc [.v (.int .i8 x2), .v (.int .i8 x3), .fa 144 .u8 x4])⟩), (1, some ⟨true, .box (.rc [.v (.int .i8 x5), .v (.int .i8 x6), .fa 144 .u8 x7])⟩), (2, some ⟨false, .arr (.one (.i .i64)) x8⟩)], 3⟩
noncomputable def l_iLoseCells (r : (Int × Int × (Nat → Int) × Int)) : List A := [.rc [.v (.int .i8 r.1), .v (.int .i8 r.2.1), .fa 144 .u8 r.2.2.1], .v (.int .i64 r.2.2.2)]
theorem f_iLoseCells_step6 (x0 : Int) (x1 : Int) (x2 : Int) (x3 : Int) (x4 : (Nat → Int)) (x5 : Int) (x6 : Int) (x7 : (Nat → Int)) (x8 : (List Int)) (r : List A) (h : (cond (decide (x1 < x0)) (cond (inB x1 (List.length x8)) (cond (inB (List.getD x8 (Int.toNat x1) 0) 144) (f_iLoseCells_L r 6 (f_iLoseCells_s6 x0 (IntKind.wrap .i64 (x1 + 1)) x2 x3 (upd x4 (Int.toNat (List.getD x8 (Int.toNat x1) 0)) 0) x5 x6 x7 x8)) none) none) (some [.rc [.v (.int .i8 x2), .v (.int .i8 x3), .fa 144 .u8 x4], .v (.int .i64 0)])) = some r) : f_iLoseCells_L r 6 (f_iLoseCells_s6 x0 x1 x2 x3 x4 x5 x6 x7 x8) = some r :=
  step_of' h (by kernel_rfl)
noncomputable def f_iLoseCells_n6 (x0 : Int) (x1 : Int) (x2 : Int) (x3 : Int) (x4 : (Nat → Int)) (x5 : Int) (x6 : Int) (x7 : (Nat → Int)) (x8 : (List Int)) : Option ((Int × Int × Int × Int × (Nat → Int) × Int × Int × (Nat → Int) × (List Int)) ⊕ (Int × Int × (Nat → Int) × Int)) := (cond (decide (x1 < x0)) (cond (inB x1 (List.length x8)) (cond (inB (List.getD x8 (Int.toNat x1) 0) 144) (some (Sum.inl (x0, (IntKind.wrap .i64 (x1 + 1)), x2, x3, (upd x4 (Int.toNat (List.getD x8 (Int.toNat x1) 0)) 0), x5, x6, x7, x8))) none) none) (some (Sum.inr (x2, x3, x4, 0))))
noncomputable def f_iLoseCells_run6 (x : (Int × Int × Int × Int × (Nat → Int) × Int × Int × (Nat → Int) × (List Int))) : Option (Int × Int × (Nat → Int) × Int) := iter (fun x => f_iLoseCells_n6 x.1 x.2.1 x.2.2.1 x.2.2.2.1 x.2.2.2.2.1 x.2.2.2.2.2.1 x.2.2.2.2.2.2.1 x.2.2.2.2.2.2.2.1 x.2.2.2.2.2.2.2.2) FU x
noncomputable def f_iLoseCells_G6 (r : List A) (x : (Int × Int × Int × Int × (Nat → Int) × Int × Int × (Nat → Int) × (List Int))) : Prop := f_iLoseCells_L r 6 (f_iLoseCells_s6 x.1 x.2.1 x.2.2.1 x.2.2.2.1 x.2.2.2.2.1 x.2.2.2.2.2.1 x.2.2.2.2.2.2.1 x.2.2.2.2.2.2.2.1 x.2.2.2.2.2.2.2.2) = some r
noncomputable def f_iLoseCells_S6 (r : List A) : (Int × Int × (Nat → Int) × Int) → Prop := fun v => r = l_iLoseCells v
theorem f_iLoseCells_go6 (r : List A) : ∀ x, sem (f_iLoseCells_S6 r) (f_iLoseCells_run6 x) → f_iLoseCells_G6 r x :=
  fun x => iter_sound (step := fun x => f_iLoseCells_n6 x.1 x.2.1 x.2.2.1 x.2.2.2.1 x.2.2.2.2.1 x.2.2.2.2.2.1 x.2.2.2.2.2.2.1 x.2.2.2.2.2.2.2.1 x.2.2.2.2.2.2.2.2) (fun x h => by
    unfold f_iLoseCells_n6 at h
    exact f_iLoseCells_step6 x.1 x.2.1 x.2.2.1 x.2.2.2.1 x.2.2.2.2.1 x.2.2.2.2.2.1 x.2.2.2.2.2.2.1 x.2.2.2.2.2.2.2.1 x.2.2.2.2.2.2.2.2 r ((sem_cond h (fun h => (sem_cond h (fun h => (sem_cond h (fun h => sem_got h fun q => q) (fun h => sem_none h))) (fun h => sem_none h))) (fun h => sem_got h fun q => some_eq q)))) FU x
noncomputable def s_iLoseCells (a0 : Int) (a1 : Int) (a2 : (Nat → Int)) (a3 : (List Int)) : Option (Int × Int × (Nat → Int) × Int) := (Option.bind (s_gContainsFunc_int64_a a3 a0 a1 a2) fun r1 => (cond ((s_icodeOf (s_iValidPicture a0 a1 a2) (!r1)) != 0) (some (0, 0, zF, (s_icodeOf (s_iValidPicture a0 a1 a2) (!r1)))) (f_iLoseCells_run6 (((List.length a3 : Nat) : Int), 0, a0, a1, a2, 0, 0, zF, a3))))
theorem f_iLoseCells_top (a0 : Int) (a1 : Int) (a2 : (Nat → Int)) (a3 : (List Int)) (r : List A) : ev f_iLoseCells_X (lpc (cnOf f_iLoseCells_LV) (f_iLoseCells_L r)) f_iLoseCells_c (K0 TT f_iLoseCells_rv) (enter [.rc [.v (.int .i8 a0), .v (.int .i8 a1), .fa 144 .u8 a2], .lst (.one (.i .i64)) a3]) = (Option.bind (s_gContainsFunc_int64_a a3 a0 a1 a2) fun r1 => (cond ((s_icodeOf (s_iValidPicture a0 a1 a2) (!r1)) != 0) (some [.rc [.v (.int .i8 0), .v (.int .i8 0), .fa 144 .u8 zF], .v (.int .i64 (s_icodeOf (s_iValidPicture a0 a1 a2) (!r1)))]) (f_iLoseCells_L r 6 (f_iLoseCells_s6 ((List.length a3 : Nat) : Int) 0 a0 a1 a2 0 0 zF a3)))) := by kernel_rfl
theorem s_iLoseCells_ok (a0 : Int) (a1 : Int) (a2 : (Nat → Int)) (a3 : (List Int)) (v : (Int × Int × (Nat → Int) × Int)) (h : s_iLoseCells a0 a1 a2 a3 = some v) : (Option.bind (s_gContainsFunc_int64_a a3 a0 a1 a2) fun r1 => (cond ((s_icodeOf (s_iValidPicture a0 a1 a2) (!r1)) != 0) (some [.rc [.v (.int .i8 0), .v (.int .i8 0), .fa 144 .u8 zF], .v (.int .i64 (s_icodeOf (s_iValidPicture a0 a1 a2) (!r1)))]) (f_iLoseCells_L (l_iLoseCells v) 6 (f_iLoseCells_s6 ((List.length a3 : Nat) : Int) 0 a0 a1 a2 0 0 zF a3)))) = some (l_iLoseCells v) := by
  unfold s_iLoseCells at h
  have go : ∀ r, sem (fun v => r = l_iLoseCells v) ((Option.bind (s_gContainsFunc_int64_a a3 a0 a1 a2) fun r1 => (cond ((s_icodeOf (s_iValidPicture a0 a1 a2) (!r1)) != 0) (some (0, 0, zF, (s_icodeOf (s_iValidPicture a0 a1 a2) (!r1)))) (f_iLoseCells_run6 (((List.length a3 : Nat) : Int), 0, a0, a1, a2, 0, 0, zF, a3))))) → (Option.bind (s_gContainsFunc_int64_a a3 a0 a1 a2) fun r1 => (cond ((s_icodeOf (s_iValidPicture a0 a1 a2) (!r1)) != 0) (some [.rc [.v (.int .i8 0), .v (.int .i8 0), .fa 144 .u8 zF], .v (.int .i64 (s_icodeOf (s_iValidPicture a0 a1 a2) (!r1)))]) (f_iLoseCells_L r 6 (f_iLoseCells_s6 ((List.length a3 : Nat) : Int) 0 a0 a1 a2 0 0 zF a3)))) = some r := fun r h => (sem_bind h fun r1 h => (sem_cond h (fun h => sem_got h fun q => some_eq q) (fun h => f_iLoseCells_go6 r _ h)))
  exact go (l_iLoseCells v) ⟨v, h, rfl⟩
noncomputable def c_iLoseCells : List A → ACall
  | [.rc [.v (.int .i8 a0), .v (.int .i8 a1), .fa 144 .u8 a2], .lst (.one (.i .i64)) a3] => ⟨(Int × Int × (Nat → Int) × Int), s_iLoseCells a0 a1 a2 a3, fun r => .tup [.rc [.v (.int .i8 r.1), .v (.int .i8 r.2.1), .fa 144 .u8 r.2.2.1], .v (.int .i64 r.2.2.2)]⟩
  | _ => ACall.fail
theorem f_iLoseCells_sound : Sound Try.prog 18 c_iLoseCells := by
  refine sound_good f_iLoseCells_ctx f_iLoseCells_LV 2 Try.func18 (c := f_iLoseCells_c) (by kernel_rfl) (rv := f_iLoseCells_rv) (by kernel_rfl) (by kernel_rfl) (by kernel_rfl) (by kernel_rfl) fun rs => ?_
  unfold c_iLoseCells
  split
  · rename_i a0 a1 a2 a3; intro v h; exact ⟨rfl, l_iLoseCells v, rfl, (f_iLoseCells_top a0 a1 a2 a3 _).trans (s_iLoseCells_ok a0 a1 a2 a3 v h)⟩
  · intro v h; cases h

/-! ### function 64: loop.example/g01322/laws.eqByteA144 -/
noncomputable def f_weqByteA144_c : Code := match Try.f64.body with | some c => c | none => .skip
noncomputable def f_weqByteA144_X : Ctx := ⟨TT, phiOf [], noPsi⟩
def f_weqByteA144_LV : List (Nat × Keep) := [(2, ([2, 3, 5], [], []))]
def f_weqByteA144_rv : List ResultVar := [.tmp 4]
noncomputable def f_weqByteA144_L (r : List A) : Nat → AS → Option (List A) := L f_weqByteA144_X (cnOf f_weqByteA144_LV) f_weqByteA144_c (K0 TT f_weqByteA144_rv) r
theorem f_weqByteA144_ctx : CtxOK Try.prog f_weqByteA144_X := ctx_of tab mix trivial
noncomputable def f_weqByteA144_s2 (x0 : Int) (x1 : (Nat → Int)) (x2 : (Nat → Int)) : AS := ⟨[(2, .a (.ptr 0 [] (0))), (3, .a (.ptr 1 [] (0))), (5, .a (.v (.int .i64 x0)))], [(0, some ⟨true, .box (.fa 144 .u8 x1)⟩), (1, some ⟨true, .box (.fa 144 .u8 x2)⟩)], 2⟩
noncomputable def l_weqByteA144 (r : Bool) : List A := [.v (.bool r)]
theorem f_weqByteA144_step2 (x0 : Int) (x1 : (Nat → Int)) (x2 : (Nat → Int)) (r : List A) (h : (cond (decide (x0 < 144)) (cond (inB x0 144) (cond (inB x0 144) (cond ((x1 (Int.toNat x0)) != (x2 (Int.toNat x0))) (some [.v (.bool false)]) (f_weqByteA144_L r 2 (f_weqByteA144_s2 (IntKind.wrap .i64 (x0 + 1)) x1 x2))) none) none) (some [.v (.bool true)])) = some r) : f_weqByteA144_L r 2 (f_weqByteA144_s2 x0 x1 x2) = some r :=
  step_of' h (by kernel_rfl)
noncomputable def f_weqByteA144_n2 (x0 : Int) (x1 : (Nat → Int)) (x2 : (Nat → Int)) : Option ((Int × (Nat → Int) × (Nat → Int)) ⊕ Bool) := (cond (decide (x0 < 144)) (cond (inB x0 144) (cond (inB x0 144) (cond ((x1 (Int.toNat x0)) != (x2 (Int.toNat x0))) (some (Sum.inr false)) (some (Sum.inl ((IntKind.wrap .i64 (x0 + 1)), x1, x2)))) none) none) (some (Sum.inr true)))
noncomputable def f_weqByteA144_run2 (x : (Int × (Nat → Int) × (Nat → Int))) : Option Bool := iter (fun x => f_weqByteA144_n2 x.1 x.2.1 x.2.2) FU x
noncomputable def f_weqByteA144_G2 (r : List A) (x : (Int × (Nat → Int) × (Nat → Int))) : Prop := f_weqByteA144_L r 2 (f_weqByteA144_s2 x.1 x.2.1 x.2.2) = some r
noncomputable def f_weqByteA144_S2 (r : List A) : Bool → Prop := fun v => r = l_weqByteA144 v
theorem f_weqByteA144_go2 (r : List A) : ∀ x, sem (f_weqByteA144_S2 r) (f_weqByteA144_run2 x) → f_weqByteA144_G2 r x :=
  fun x => iter_sound (step := fun x => f_weqByteA144_n2 x.1 x.2.1 x.2.2) (fun x h => by
    unfold f_weqByteA144_n2 at h
    exact f_weqByteA144_step2 x.1 x.2.1 x.2.2 r ((sem_cond h (fun h => (sem_cond h (fun h => (sem_cond h (fun h => (sem_cond h (fun h => sem_got h fun q => some_eq q) (fun h => sem_got h fun q => q))) (fun h => sem_none h))) (fun h => sem_none h))) (fun h => sem_got h fun q => some_eq q)))) FU x
noncomputable def s_weqByteA144 (a0 : (Nat → Int)) (a1 : (Nat → Int)) : Option Bool := (f_weqByteA144_run2 (0, a0, a1))
theorem f_weqByteA144_top (a0 : (Nat → Int)) (a1 : (Nat → Int)) (r : List A) : ev f_weqByteA144_X (lpc (cnOf f_weqByteA144_LV) (f_weqByteA144_L r)) f_weqByteA144_c (K0 TT f_weqByteA144_rv) (enter [.fa 144 .u8 a0, .fa 144 .u8 a1]) = (f_weqByteA144_L r 2 (f_weqByteA144_s2 0 a0 a1)) := by kernel_rfl
theorem s_weqByteA144_ok (a0 : (Nat → Int)) (a1 : (Nat → Int)) (v : Bool) (h : s_weqByteA144 a0 a1 = some v) : (f_weqByteA144_L (l_weqByteA144 v) 2 (f_weqByteA144_s2 0 a0 a1)) = some (l_weqByteA144 v) := by
  unfold s_weqByteA144 at h
  have go : ∀ r, sem (fun v => r = l_weqByteA144 v) ((f_weqByteA144_run2 (0, a0, a1))) → (f_weqByteA144_L r 2 (f_weqByteA144_s2 0 a0 a1)) = some r := fun r h => f_weqByteA144_go2 r _ h
  exact go (l_weqByteA144 v) ⟨v, h, rfl⟩
noncomputable def c_weqByteA144 : List A → ACall
  | [.fa 144 .u8 a0, .fa 144 .u8 a1] => ⟨Bool, s_weqByteA144 a0 a1, fun r => .one (.v (.bool r))⟩
  | _ => ACall.fail
theorem f_weqByteA144_sound : Sound Try.prog 64 c_weqByteA144 := by
  refine sound_good f_weqByteA144_ctx f_weqByteA144_LV 2 Try.func64 (c := f_weqByteA144_c) (by kernel_rfl) (rv := f_weqByteA144_rv) (by kernel_rfl) (by kernel_rfl) (by kernel_rfl) (by kernel_rfl) fun rs => ?_
  unfold c_weqByteA144
  split
  · rename_i a0 a1; intro v h; exact ⟨rfl, l_weqByteA144 v, rfl, (f_weqByteA144_top a0 a1 _).trans (s_weqByteA144_ok a0 a1 v h)⟩
  · intro v h; cases h

/-! ### function 19: loop.example/g01322/laws.eqPicture -/
noncomputable def f_weqPicture_c : Code := match Try.f19.body with | some c => c | none => .skip
noncomputable def f_weqPicture_X : Ctx := ⟨TT, phiOf [(64, c_weqByteA144)], noPsi⟩
def f_weqPicture_LV : List (Nat × Keep) := []
def f_weqPicture_rv : List ResultVar := [.tmp 4]
noncomputable def f_weqPicture_L (r : List A) : Nat → AS → Option (List A) := L f_weqPicture_X (cnOf f_weqPicture_LV) f_weqPicture_c (K0 TT f_weqPicture_rv) r
theorem f_weqPicture_ctx : CtxOK Try.prog f_weqPicture_X := ctx_of tab mix ⟨⟨Try.call64, f_weqByteA144_sound⟩, trivial⟩
noncomputable def s_weqPicture (a0 : Int) (a1 : Int) (a2 : (Nat → Int)) (a3 : Int) (a4 : Int) (a5 : (Nat → Int)) : Option Bool := (cond (a0 != a3) (some false) (cond (a1 != a4) (some false) (Option.bind (s_weqByteA144 a2 a5) fun r1 => (cond (!r1) (some false) (some true)))))
theorem f_weqPicture_top (a0 : Int) (a1 : Int) (a2 : (Nat → Int)) (a3 : Int) (a4 : Int) (a5 : (Nat → Int)) (r : List A) : ev f_weqPicture_X (lpc (cnOf f_weqPicture_LV) (f_weqPicture_L r)) f_weqPicture_c (K0 TT f_weqPicture_rv) (enter [.rc [.v (.int .i8 a0), .v (.int .i8 a1), .fa 144 .u8 a2], .rc [.v (.int .i8 a3), .v (.int .i8 a4), .fa 144 .u8 a5]]) = (cond (a0 != a3) (some [.v (.bool false)]) (cond (a1 != a4) (some [.v (.bool false)]) (Option.bind (s_weqByteA144 a2 a5) fun r1 => (cond (!r1) (some [.v (.bool false)]) (some [.v (.bool true)]))))) := by kernel_rfl
noncomputable def l_weqPicture (r : Bool) : List A := [.v (.bool r)]
theorem s_weqPicture_ok (a0 : Int) (a1 : Int) (a2 : (Nat → Int)) (a3 : Int) (a4 : Int) (a5 : (Nat → Int)) (v : Bool) (h : s_weqPicture a0 a1 a2 a3 a4 a5 = some v) : (cond (a0 != a3) (some [.v (.bool false)]) (cond (a1 != a4) (some [.v (.bool false)]) (Option.bind (s_weqByteA144 a2 a5) fun r1 => (cond (!r1) (some [.v (.bool false)]) (some [.v (.bool true)]))))) = some (l_weqPicture v) := by
  have e : (cond (a0 != a3) (some [.v (.bool false)]) (cond (a1 != a4) (some [.v (.bool false)]) (Option.bind (s_weqByteA144 a2 a5) fun r1 => (cond (!r1) (some [.v (.bool false)]) (some [.v (.bool true)]))))) = Option.map l_weqPicture (s_weqPicture a0 a1 a2 a3 a4 a5) := by
    unfold s_weqPicture
    exact (cond_app (Option.map l_weqPicture) rfl (cond_app (Option.map l_weqPicture) rfl (bind_app fun _ => (cond_app (Option.map l_weqPicture) rfl rfl))))
  rw [e, h]; rfl
noncomputable def c_weqPicture : List A → ACall
  | [.rc [.v (.int .i8 a0), .v (.int .i8 a1), .fa 144 .u8 a2], .rc [.v (.int .i8 a3), .v (.int .i8 a4), .fa 144 .u8 a5]] => ⟨Bool, s_weqPicture a0 a1 a2 a3 a4 a5, fun r => .one (.v (.bool r))⟩
  | _ => ACall.fail
theorem f_weqPicture_sound : Sound Try.prog 19 c_weqPicture := by
  refine sound_good f_weqPicture_ctx f_weqPicture_LV 2 Try.func19 (c := f_weqPicture_c) (by kernel_rfl) (rv := f_weqPicture_rv) (by kernel_rfl) (by kernel_rfl) (by kernel_rfl) (by kernel_rfl) fun rs => ?_
  unfold c_weqPicture
  split
  · rename_i a0 a1 a2 a3 a4 a5; intro v h; exact ⟨rfl, l_weqPicture v, rfl, (f_weqPicture_top a0 a1 a2 a3 a4 a5 _).trans (s_weqPicture_ok a0 a1 a2 a3 a4 a5 v h)⟩
  · intro v h; cases h

/-! ### function 3: loop.example/g01322/laws.FnExactLoseCells -/
noncomputable def f_wFnExactLoseCells_c : Code := match Try.f3.body with | some c => c | none => .skip
noncomputable def f_wFnExactLoseCells_X : Ctx := ⟨TT, phiOf [(15, c_sLoseCells), (16, c_wtoPicture), (17, c_wtoInt64S), (18, c_iLoseCells), (19, c_weqPicture), (20, c_weqInt64S)], noPsi⟩
def f_wFnExactLoseCells_LV : List (Nat × Keep) := []
def f_wFnExactLoseCells_rv : List ResultVar := [.tmp 4]
noncomputable def f_wFnExactLoseCells_L (r : List A) : Nat → AS → Option (List A) := L f_wFnExactLoseCells_X (cnOf f_wFnExactLoseCells_LV) f_wFnExactLoseCells_c (K0 TT f_wFnExactLoseCells_rv) r
theorem f_wFnExactLoseCells_ctx : CtxOK Try.prog f_wFnExactLoseCells_X := ctx_of tab mix ⟨⟨Try.call15, f_sLoseCells_sound⟩, ⟨Try.call16, f_wtoPicture_sound⟩, ⟨Try.call17, f_wtoInt64S_sound⟩, ⟨Try.call18, f_iLoseCells_sound⟩, ⟨Try.call19, f_weqPicture_sound⟩, ⟨Try.call20, f_weqInt64S_sound⟩, trivial⟩
noncomputable def s_wFnExactLoseCells (a0 : Int) (a1 : Int) (a2 : (Nat → Int)) (a3 : (List Int)) : Option Bool := (cond (decide (((List.length a3 : Nat) : Int) > 1048576)) (some true) (Option.bind (s_wtoInt64S a3) fun r1 => (Option.bind (s_sLoseCells (s_wtoPicture a0 a1 a2).1 (s_wtoPicture a0 a1 a2).2.1 (s_wtoPicture a0 a1 a2).2.2 r1) fun r2 => (Option.bind (s_wtoInt64S a3) fun r3 => (Option.bind (s_iLoseCells (s_wtoPicture a0 a1 a2).1 (s_wtoPicture a0 a1 a2).2.1 (s_wtoPicture a0 a1 a2).2.2 r3) fun r4 => (Option.bind (s_weqPicture (r4.1) (r4.2.1) (r4.2.2.1) (r2.1) (r2.2.1) (r2.2.2.1)) fun r5 => (cond (!r5) (some false) (cond (r4.2.2.2 != r2.2.2.2) (some false) (Option.bind (s_wtoInt64S a3) fun r6 => (Option.bind (s_weqInt64S r3 r6) fun r7 => (cond (!r7) (some false) (some true))))))))))))
theorem f_wFnExactLoseCells_top (a0 : Int) (a1 : Int) (a2 : (Nat → Int)) (a3 : (List Int)) (r : List A) : ev f_wFnExactLoseCells_X (lpc (cnOf f_wFnExactLoseCells_LV) (f_wFnExactLoseCells_L r)) f_wFnExactLoseCells_c (K0 TT f_wFnExactLoseCells_rv) (enter [.rc [.v (.int .i8 a0), .v (.int .i8 a1), .fa 144 .u8 a2], .lst (.one (.i .i64)) a3]) = (cond (decide (((List.length a3 : Nat) : Int) > 1048576)) (some [.v (.bool true)]) (Option.bind (s_wtoInt64S a3) fun r1 => (Option.bind (s_sLoseCells (s_wtoPicture a0 a1 a2).1 (s_wtoPicture a0 a1 a2).2.1 (s_wtoPicture a0 a1 a2).2.2 r1) fun r2 => (Option.bind (s_wtoInt64S a3) fun r3 => (Option.bind (s_iLoseCells (s_wtoPicture a0 a1 a2).1 (s_wtoPicture a0 a1 a2).2.1 (s_wtoPicture a0 a1 a2).2.2 r3) fun r4 => (Option.bind (s_weqPicture (r4.1) (r4.2.1) (r4.2.2.1) (r2.1) (r2.2.1) (r2.2.2.1)) fun r5 => (cond (!r5) (some [.v (.bool false)]) (cond (r4.2.2.2 != r2.2.2.2) (some [.v (.bool false)]) (Option.bind (s_wtoInt64S a3) fun r6 => (Option.bind (s_weqInt64S r3 r6) fun r7 => (cond (!r7) (some [.v (.bool false)]) (some [.v (.bool true)])))))))))))) := by kernel_rfl
noncomputable def l_wFnExactLoseCells (r : Bool) : List A := [.v (.bool r)]
theorem s_wFnExactLoseCells_ok (a0 : Int) (a1 : Int) (a2 : (Nat → Int)) (a3 : (List Int)) (v : Bool) (h : s_wFnExactLoseCells a0 a1 a2 a3 = some v) : (cond (decide (((List.length a3 : Nat) : Int) > 1048576)) (some [.v (.bool true)]) (Option.bind (s_wtoInt64S a3) fun r1 => (Option.bind (s_sLoseCells (s_wtoPicture a0 a1 a2).1 (s_wtoPicture a0 a1 a2).2.1 (s_wtoPicture a0 a1 a2).2.2 r1) fun r2 => (Option.bind (s_wtoInt64S a3) fun r3 => (Option.bind (s_iLoseCells (s_wtoPicture a0 a1 a2).1 (s_wtoPicture a0 a1 a2).2.1 (s_wtoPicture a0 a1 a2).2.2 r3) fun r4 => (Option.bind (s_weqPicture (r4.1) (r4.2.1) (r4.2.2.1) (r2.1) (r2.2.1) (r2.2.2.1)) fun r5 => (cond (!r5) (some [.v (.bool false)]) (cond (r4.2.2.2 != r2.2.2.2) (some [.v (.bool false)]) (Option.bind (s_wtoInt64S a3) fun r6 => (Option.bind (s_weqInt64S r3 r6) fun r7 => (cond (!r7) (some [.v (.bool false)]) (some [.v (.bool true)])))))))))))) = some (l_wFnExactLoseCells v) := by
  have e : (cond (decide (((List.length a3 : Nat) : Int) > 1048576)) (some [.v (.bool true)]) (Option.bind (s_wtoInt64S a3) fun r1 => (Option.bind (s_sLoseCells (s_wtoPicture a0 a1 a2).1 (s_wtoPicture a0 a1 a2).2.1 (s_wtoPicture a0 a1 a2).2.2 r1) fun r2 => (Option.bind (s_wtoInt64S a3) fun r3 => (Option.bind (s_iLoseCells (s_wtoPicture a0 a1 a2).1 (s_wtoPicture a0 a1 a2).2.1 (s_wtoPicture a0 a1 a2).2.2 r3) fun r4 => (Option.bind (s_weqPicture (r4.1) (r4.2.1) (r4.2.2.1) (r2.1) (r2.2.1) (r2.2.2.1)) fun r5 => (cond (!r5) (some [.v (.bool false)]) (cond (r4.2.2.2 != r2.2.2.2) (some [.v (.bool false)]) (Option.bind (s_wtoInt64S a3) fun r6 => (Option.bind (s_weqInt64S r3 r6) fun r7 => (cond (!r7) (some [.v (.bool false)]) (some [.v (.bool true)])))))))))))) = Option.map l_wFnExactLoseCells (s_wFnExactLoseCells a0 a1 a2 a3) := by
    unfold s_wFnExactLoseCells
    exact (cond_app (Option.map l_wFnExactLoseCells) rfl (bind_app fun _ => (bind_app fun _ => (bind_app fun _ => (bind_app fun _ => (bind_app fun _ => (cond_app (Option.map l_wFnExactLoseCells) rfl (cond_app (Option.map l_wFnExactLoseCells) rfl (bind_app fun _ => (bind_app fun _ => (cond_app (Option.map l_wFnExactLoseCells) rfl rfl)))))))))))
  rw [e, h]; rfl
noncomputable def c_wFnExactLoseCells : List A → ACall
  | [.rc [.v (.int .i8 a0), .v (.int .i8 a1), .fa 144 .u8 a2], .lst (.one (.i .i64)) a3] => ⟨Bool, s_wFnExactLoseCells a0 a1 a2 a3, fun r => .one (.v (.bool r))⟩
  | _ => ACall.fail
theorem f_wFnExactLoseCells_sound : Sound Try.prog 3 c_wFnExactLoseCells := by
  refine sound_good f_wFnExactLoseCells_ctx f_wFnExactLoseCells_LV 2 Try.func3 (c := f_wFnExactLoseCells_c) (by kernel_rfl) (rv := f_wFnExactLoseCells_rv) (by kernel_rfl) (by kernel_rfl) (by kernel_rfl) (by kernel_rfl) fun rs => ?_
  unfold c_wFnExactLoseCells
  split
  · rename_i a0 a1 a2 a3; intro v h; exact ⟨rfl, l_wFnExactLoseCells v, rfl, (f_wFnExactLoseCells_top a0 a1 a2 a3 _).trans (s_wFnExactLoseCells_ok a0 a1 a2 a3 v h)⟩
  · intro v h; cases h

/-! ### function 65: loop.example/g01322/spec.l06All -/
noncomputable def f_sl06All_c : Code := match Try.f65.body with | some c => c | none => .skip
noncomputable def f_sl06All_X : Ctx := ⟨TT, phiOf [(56, c_sl01Ok)], noPsi⟩
def f_sl06All_LV : List (Nat × Keep) := [(2, ([0, 3], [], [])), (7, ([0, 4], [], []))]
def f_sl06All_rv : List ResultVar := [.tmp 2]
noncomputable def f_sl06All_L (r : List A) : Nat → AS → Option (List A) := L f_sl06All_X (cnOf f_sl06All_LV) f_sl06All_c (K0 TT f_sl06All_rv) r
theorem f_sl06All_ctx : CtxOK Try.prog f_sl06All_X := ctx_of tab mix ⟨⟨Try.call56, f_sl01Ok_sound⟩, trivial⟩
noncomputable def f_sl06All_s2 (x0 : Int) (x1 : (List (Int × Int × (Nat → Int)))) : AS := ⟨[(0, .a (.sl 0)), (3, .a (.v (.int .i64 x0)))], [(0, some ⟨false, .arr (.st [(.i .i8), (.i .i8), (.fa 144 .u8)]) x1⟩)], 1⟩
noncomputable def f_sl06All_s7 (x0 : Int) (x1 : (List (Int × Int × (Nat → Int)))) : AS := ⟨[(0, .a (.sl 0)), (4, .a (.v (.int .i64 x0)))], [(0, some ⟨false, .arr (.st [(.i .i8), (.i .i8), (.fa 144 .u8)]) x1⟩)], 1⟩
noncomputable def l_sl06All (r : Int) : List A := [.v (.int .i64 r)]
theorem f_sl06All_step7 (x0 : Int) (x1 : (List (Int × Int × (Nat → Int)))) (r : List A) (h : (cond (decide (x0 < ((List.length x1 : Nat) : Int))) (cond (inB x0 (List.length x1)) (cond (inB 0 (List.length x1)) (cond ((List.getD x1 (Int.toNat x0) ((0, 0, zF) : (Int × Int × (Nat → Int)))).1 != (List.getD x1 0 ((0, 0, zF) : (Int × Int × (Nat → Int)))).1) (some [.v (.int .i64 4)]) (cond (inB x0 (List.length x1)) (cond (inB 0 (List.length x1)) (cond ((List.getD x1 (Int.toNat x0) ((0, 0, zF) : (Int × Int × (Nat → Int)))).2.1 != (List.getD x1 0 ((0, 0, zF) : (Int × Int × (Nat → Int)))).2.1) (some [.v (.int .i64 4)]) (f_sl06All_L r 7 (f_sl06All_s7 (IntKind.wrap .i64 (x0 + 1)) x1))) none) none)) none) none) (some [.v (.int .i64 0)])) = some r) : f_sl06All_L r 7 (f_sl06All_s7 x0 x1) = some r :=
  step_of' h (by kernel_rfl)
noncomputable def f_sl06All_n7 (x0 : Int) (x1 : (List (Int × Int × (Nat → Int)))) : Option ((Int × (List (Int × Int × (Nat → Int)))) ⊕ Int) := (cond (decide (x0 < ((List.length x1 : Nat) : Int))) (cond (inB x0 (List.length x1)) (cond (inB 0 (List.length x1)) (cond ((List.getD x1 (Int.toNat x0) ((0, 0, zF) : (Int × Int × (Nat → Int)))).1 != (List.getD x1 0 ((0, 0, zF) : (Int × Int × (Nat → Int)))).1) (some (Sum.inr 4)) (cond (inB x0 (List.length x1)) (cond (inB 0 (List.length x1)) (cond ((List.getD x1 (Int.toNat x0) ((0, 0, zF) : (Int × Int × (Nat → Int)))).2.1 != (List.getD x1 0 ((0, 0, zF) : (Int × Int × (Nat → Int)))).2.1) (some (Sum.inr 4)) (some (Sum.inl ((IntKind.wrap .i64 (x0 + 1)), x1)))) none) none)) none) none) (some (Sum.inr 0)))
noncomputable def f_sl06All_run7 (x : (Int × (List (Int × Int × (Nat → Int))))) : Option Int := iter (fun x => f_sl06All_n7 x.1 x.2) FU x
noncomputable def f_sl06All_G7 (r : List A) (x : (Int × (List (Int × Int × (Nat → Int))))) : Prop := f_sl06All_L r 7 (f_sl06All_s7 x.1 x.2) = some r
theorem f_sl06All_step2 (x0 : Int) (x1 : (List (Int × Int × (Nat → Int)))) (r : List A) (h : (cond (decide (x0 < ((List.length x1 : Nat) : Int))) (cond (inB x0 (List.length x1)) (cond (!(s_sl01Ok (List.getD x1 (Int.toNat x0) ((0, 0, zF) : (Int × Int × (Nat → Int)))).1 (List.getD x1 (Int.toNat x0) ((0, 0, zF) : (Int × Int × (Nat → Int)))).2.1 (List.getD x1 (Int.toNat x0) ((0, 0, zF) : (Int × Int × (Nat → Int)))).2.2)) (some [.v (.int .i64 1)]) (f_sl06All_L r 2 (f_sl06All_s2 (IntKind.wrap .i64 (x0 + 1)) x1))) none) (f_sl06All_L r 7 (f_sl06All_s7 1 x1))) = some r) : f_sl06All_L r 2 (f_sl06All_s2 x0 x1) = some r :=
  step_of' h (by kernel_rfl)
noncomputable def f_sl06All_n2 (x0 : Int) (x1 : (List (Int × Int × (Nat → Int)))) : Option ((Int × (List (Int × Int × (Nat → Int)))) ⊕ Int) := (cond (decide (x0 < ((List.length x1 : Nat) : Int))) (cond (inB x0 (List.length x1)) (cond (!(s_sl01Ok (List.getD x1 (Int.toNat x0) ((0, 0, zF) : (Int × Int × (Nat → Int)))).1 (List.getD x1 (Int.toNat x0) ((0, 0, zF) : (Int × Int × (Nat → Int)))).2.1 (List.getD x1 (Int.toNat x0) ((0, 0, zF) : (Int × Int × (Nat → Int)))).2.2)) (some (Sum.inr 1)) (some (Sum.inl ((IntKind.wrap .i64 (x0 + 1)), x1)))) none) (Option.map (fun x => (Sum.inr x)) (f_sl06All_run7 (1, x1))))
noncomputable def f_sl06All_run2 (x : (Int × (List (Int × Int × (Nat → Int))))) : Option Int := iter (fun x => f_sl06All_n2 x.1 x.2) FU x
noncomputable def f_sl06All_G2 (r : List A) (x : (Int × (List (Int × Int × (Nat → Int))))) : Prop := f_sl06All_L r 2 (f_sl06All_s2 x.1 x.2) = some r
noncomputable def f_sl06All_S7 (r : List A) : Int → Prop := fun v => r = l_sl06All v
noncomputable def f_sl06All_S2 (r : List A) : Int → Prop := fun v => r = l_sl06All v
theorem f_sl06All_go7 (r : List A) : ∀ x, sem (f_sl06All_S7 r) (f_sl06All_run7 x) → f_sl06All_G7 r x :=
  fun x => iter_sound (step := fun x => f_sl06All_n7 x.1 x.2) (fun x h => by
    unfold f_sl06All_n7 at h
    exact f_sl06All_step7 x.1 x.2 r ((sem_cond h (fun h => (sem_cond h (fun h => (sem_cond h (fun h => (sem_cond h (fun h => sem_got h fun q => some_eq q) (fun h => (sem_cond h (fun h => (sem_cond h (fun h => (sem_cond h (fun h => sem_got h fun q => some_eq q) (fun h => sem_got h fun q => q))) (fun h => sem_none h))) (fun h => sem_none h))))) (fun h => sem_none h))) (fun h => sem_none h))) (fun h => sem_got h fun q => some_eq q)))) FU x
theorem f_sl06All_go2 (r : List A) : ∀ x, sem (f_sl06All_S2 r) (f_sl06All_run2 x) → f_sl06All_G2 r x :=
  fun x => iter_sound (step := fun x => f_sl06All_n2 x.1 x.2) (fun x h => by
    unfold f_sl06All_n2 at h
    exact f_sl06All_step2 x.1 x.2 r ((sem_cond h (fun h => (sem_cond h (fun h => (sem_cond h (fun h => sem_got h fun q => some_eq q) (fun h => sem_got h fun q => q))) (fun h => sem_none h))) (fun h => f_sl06All_go7 r _ (sem_mapk h fun _ q => q))))) FU x
noncomputable def s_sl06All (a0 : (List (Int × Int × (Nat → Int)))) : Option Int := (f_sl06All_run2 (0, a0))
theorem f_sl06All_top (a0 : (List (Int × Int × (Nat → Int)))) (r : List A) : ev f_sl06All_X (lpc (cnOf f_sl06All_LV) (f_sl06All_L r)) f_sl06All_c (K0 TT f_sl06All_rv) (enter [.lst (.st [(.i .i8), (.i .i8), (.fa 144 .u8)]) a0]) = (f_sl06All_L r 2 (f_sl06All_s2 0 a0)) := by kernel_rfl
theorem s_sl06All_ok (a0 : (List (Int × Int × (Nat → Int)))) (v : Int) (h : s_sl06All a0 = some v) : (f_sl06All_L (l_sl06All v) 2 (f_sl06All_s2 0 a0)) = some (l_sl06All v) := by
  unfold s_sl06All at h
  have go : ∀ r, sem (fun v => r = l_sl06All v) ((f_sl06All_run2 (0, a0))) → (f_sl06All_L r 2 (f_sl06All_s2 0 a0)) = some r := fun r h => f_sl06All_go2 r _ h
  exact go (l_sl06All v) ⟨v, h, rfl⟩
noncomputable def c_sl06All : List A → ACall
  | [.lst (.st [(.i .i8), (.i .i8), (.fa 144 .u8)]) a0] => ⟨Int, s_sl06All a0, fun r => .one (.v (.int .i64 r))⟩
  | _ => ACall.fail
theorem f_sl06All_sound : Sound Try.prog 65 c_sl06All := by
  refine sound_good f_sl06All_ctx f_sl06All_LV 1 Try.func65 (c := f_sl06All_c) (by kernel_rfl) (rv := f_sl06All_rv) (by kernel_rfl) (by kernel_rfl) (by kernel_rfl) (by kernel_rfl) fun rs => ?_
  unfold c_sl06All
  split
  · rename_i a0; intro v h; exact ⟨rfl, l_sl06All v, rfl, (f_sl06All_top a0 _).trans (s_sl06All_ok a0 v h)⟩
  · intro v h; cases h

/-! ### function 21: loop.example/g01322/spec.FillFrom -/
noncomputable def f_sFillFrom_c : Code := match Try.f21.body with | some c => c | none => .skip
noncomputable def f_sFillFrom_X : Ctx := ⟨TT, phiOf [(65, c_sl06All)], noPsi⟩
def f_sFillFrom_LV : List (Nat × Keep) := [(6, ([2, 3, 4, 8, 9], [], []))]
def f_sFillFrom_rv : List ResultVar := [.cell 4 27, .tmp 5, .tmp 6]
noncomputable def f_sFillFrom_L (r : List A) : Nat → AS → Option (List A) := L f_sFillFrom_X (cnOf f_sFillFrom_LV) f_sFillFrom_c (K0 TT f_sFillFrom_rv) r
theorem f_sFillFrom_ctx : CtxOK Try.prog f_sFillFrom_X := ctx_of tab mix ⟨⟨Try.call65, f_sl06All_sound⟩, trivial⟩
noncomputable def f_sFillFrom_s6 (x0 : Int) (x1 : Int) (x2 : Int) (x3 : Int) (x4 : (Nat → Int)) (x5 : Int) (x6 : Int) (x7 : (Nat → Int)) (x8 : Int) (x9 : Int) (x10 : (Nat → Int)) : AS := ⟨[(2, .a (.ptr 0 [] (0))), (3, .a (.ptr 1 [] (0))), (4, .a (.ptr 2 [] (0))), (8, .a (.v (.int .i64 x0))), (9, .a (.v (.int .i64 x1)))], [(0, some ⟨true, .box (.rc [.v (.int .i8 x2), .v (.int .i8 x3), .fa 144 .u8 x4])⟩), (1, some ⟨true, .box (.rc [.v (.int .i8 x5), .v (.int .i8 x6), .fa 144 .u8 x7])⟩), (2, some ⟨true, .box (.rc [.v (.int .i8 x8), .v (.int .i8 x9), .fa 144 .u8 x10])⟩)], 3⟩
noncomputable def l_sFillFrom (r : (Int × Int × (Nat → Int) × Int × Int)) : List A := [.rc [.v (.int .i8 r.1), .v (.int .i8 r.2.1), .fa 144 .u8 r.2.2.1], .v (.int .i64 r.2.2.2.1), .v (.int .i64 r.2.2.2.2)]
theorem f_sFillFrom_step6 (x0 : Int) (x1 : Int) (x2 : Int) (x3 : Int) (x4 : (Nat → Int)) (x5 : Int) (x6 : Int) (x7 : (Nat → Int)) (x8 : Int) (x9 : Int) (x10 : (Nat → Int)) (r : List A) (h : (cond (decide (x1 < 144)) (cond (inB x1 144) (cond ((x4 (Int.toNat x1)) == 0) (cond (inB x1 144) (cond ((x7 (Int.toNat x1)) != 0) (cond (inB x1 144) (cond (inB x1 144) (f_sFillFrom_L r 6 (f_sFillFrom_s6 (IntKind.wrap .i64 (x0 + 1)) (IntKind.wrap .i64 (x1 + 1)) x2 x3 (upd x4 (Int.toNat x1) (x7 (Int.toNat x1))) x5 x6 x7 x8 x9 x10)) none) none) (f_sFillFrom_L r 6 (f_sFillFrom_s6 x0 (IntKind.wrap .i64 (x1 + 1)) x2 x3 x4 x5 x6 x7 x8 x9 x10))) none) (f_sFillFrom_L r 6 (f_sFillFrom_s6 x0 (IntKind.wrap .i64 (x1 + 1)) x2 x3 x4 x5 x6 x7 x8 x9 x10))) none) (some [.rc [.v (.int .i8 x2), .v (.int .i8 x3), .fa 144 .u8 x4], .v (.int .i64 x0), .v (.int .i64 0)])) = some r) : f_sFillFrom_L r 6 (f_sFillFrom_s6 x0 x1 x2 x3 x4 x5 x6 x7 x8 x9 x10) = some r :=
  step_of' h (by kernel_rfl)
noncomputable def f_sFillFrom_n6 (x0 : Int) (x1 : Int) (x2 : Int) (x3 : Int) (x4 : (Nat → Int)) (x5 : Int) (x6 : Int) (x7 : (Nat → Int)) (x8 : Int) (x9 : Int) (x10 : (Nat → Int)) : Option ((Int × Int × Int × Int × (Nat → Int) × Int × Int × (Nat → Int) × Int × Int × (Nat → Int)) ⊕ (Int × Int × (Nat → Int) × Int × Int)) := (cond (decide (x1 < 144)) (cond (inB x1 144) (cond ((x4 (Int.toNat x1)) == 0) (cond (inB x1 144) (cond ((x7 (Int.toNat x1)) != 0) (cond (inB x1 144) (cond (inB x1 144) (some (Sum.inl ((IntKind.wrap .i64 (x0 + 1)), (IntKind.wrap .i64 (x1 + 1)), x2, x3, (upd x4 (Int.toNat x1) (x7 (Int.toNat x1))), x5, x6, x7, x8, x9, x10))) none) none) (some (Sum.inl (x0, (IntKind.wrap .i64 (x1 + 1)), x2, x3, x4, x5, x6, x7, x8, x9, x10)))) none) (some (Sum.inl (x0, (IntKind.wrap .i64 (x1 + 1)), x2, x3, x4, x5, x6, x7, x8, x9, x10)))) none) (some (Sum.inr (x2, x3, x4, x0, 0))))
noncomputable def f_sFillFrom_run6 (x : (Int × Int × Int × Int × (Nat → Int) × Int × Int × (Nat → Int) × Int × Int × (Nat → Int))) : Option (Int × Int × (Nat → Int) × Int × Int) := iter (fun x => f_sFillFrom_n6 x.1 x.2.1 x.2.2.1 x.2.2.2.1 x.2.2.2.2.1 x.2.2.2.2.2.1 x.2.2.2.2.2.2.1 x.2.2.2.2.2.2.2.1 x.2.2.2.2.2.2.2.2.1 x.2.2.2.2.2.2.2.2.2.1 x.2.2.2.2.2.2.2.2.2.2) FU x
noncomputable def f_sFillFrom_G6 (r : List A) (x : (Int × Int × Int × Int × (Nat → Int) × Int × Int × (Nat → Int) × Int × Int × (Nat → Int))) : Prop := f_sFillFrom_L r 6 (f_sFillFrom_s6 x.1 x.2.1 x.2.2.1 x.2.2.2.1 x.2.2.2.2.1 x.2.2.2.2.2.1 x.2.2.2.2.2.2.1 x.2.2.2.2.2.2.2.1 x.2.2.2.2.2.2.2.2.1 x.2.2.2.2.2.2.2.2.2.1 x.2.2.2.2.2.2.2.2.2.2) = some r
noncomputable def f_sFillFrom_S6 (r : List A) : (Int × Int × (Nat → Int) × Int × Int) → Prop := fun v => r = l_sFillFrom v
theorem f_sFillFrom_go6 (r : List A) : ∀ x, sem (f_sFillFrom_S6 r) (f_sFillFrom_run6 x) → f_sFillFrom_G6 r x :=
  fun x => iter_sound (step := fun x => f_sFillFrom_n6 x.1 x.2.1 x.2.2.1 x.2.2.2.1 x.2.2.2.2.1 x.2.2.2.2.2.1 x.2.2.2.2.2.2.1 x.2.2.2.2.2.2.2.1 x.2.2.2.2.2.2.2.2.1 x.2.2.2.2.2.2.2.2.2.1 x.2.2.2.2.2.2.2.2.2.2) (fun x h => by
    unfold f_sFillFrom_n6 at h
    exact f_sFillFrom_step6 x.1 x.2.1 x.2.2.1 x.2.2.2.1 x.2.2.2.2.1 x.2.2.2.2.2.1 x.2.2.2.2.2.2.1 x.2.2.2.2.2.2.2.1 x.2.2.2.2.2.2.2.2.1 x.2.2.2.2.2.2.2.2.2.1 x.2.2.2.2.2.2.2.2.2.2 r ((sem_cond h (fun h => (sem_cond h (fun h => (sem_cond h (fun h => (sem_cond h (fun h => (sem_cond h (fun h => (sem_cond h (fun h => (sem_cond h (fun h => sem_got h fun q => q) (fun h => sem_none h))) (fun h => sem_none h))) (fun h => sem_got h fun q => q))) (fun h => sem_none h))) (fun h => sem_got h fun q => q))) (fun h => sem_none h))) (fun h => sem_got h fun q => some_eq q)))) FU x
noncomputable def s_sFillFrom (a0 : Int) (a1 : Int) (a2 : (Nat → Int)) (a3 : Int) (a4 : Int) (a5 : (Nat → Int)) : Option (Int × Int × (Nat → Int) × Int × Int) := (Option.bind (s_sl06All [(a0, a1, a2), (a3, a4, a5)]) fun r1 => (cond (r1 != 0) (some (0, 0, zF, 0, r1)) (f_sFillFrom_run6 (0, 0, a0, a1, a2, a3, a4, a5, 0, 0, zF))))
theorem f_sFillFrom_top (a0 : Int) (a1 : Int) (a2 : (Nat → Int)) (a3 : Int) (a4 : Int) (a5 : (Nat → Int)) (r : List A) : ev f_sFillFrom_X (lpc (cnOf f_sFillFrom_LV) (f_sFillFrom_L r)) f_sFillFrom_c (K0 TT f_sFillFrom_rv) (enter [.rc [.v (.int .i8 a0), .v (.int .i8 a1), .fa 144 .u8 a2], .rc [.v (.int .i8 a3), .v (.int .i8 a4), .fa 144 .u8 a5]]) = (Option.bind (s_sl06All [(a0, a1, a2), (a3, a4, a5)]) fun r1 => (cond (r1 != 0) (some [.rc [.v (.int .i8 0), .v (.int .i8 0), .fa 144 .u8 zF], .v (.int .i64 0), .v (.int .i64 r1)]) (f_sFillFrom_L r 6 (f_sFillFrom_s6 0 0 a0 a1 a2 a3 a4 a5 0 0 zF)))) := by kernel_rfl
theorem s_sFillFrom_ok (a0 : Int) (a1 : Int) (a2 : (Nat → Int)) (a3 : Int) (a4 : Int) (a5 : (Nat → Int)) (v : (Int × Int × (Nat → Int) × Int × Int)) (h : s_sFillFrom a0 a1 a2 a3 a4 a5 = some v) : (Option.bind (s_sl06All [(a0, a1, a2), (a3, a4, a5)]) fun r1 => (cond (r1 != 0) (some [.rc [.v (.int .i8 0), .v (.int .i8 0), .fa 144 .u8 zF], .v (.int .i64 0), .v (.int .i64 r1)]) (f_sFillFrom_L (l_sFillFrom v) 6 (f_sFillFrom_s6 0 0 a0 a1 a2 a3 a4 a5 0 0 zF)))) = some (l_sFillFrom v) := by
  unfold s_sFillFrom at h
  have go : ∀ r, sem (fun v => r = l_sFillFrom v) ((Option.bind (s_sl06All [(a0, a1, a2), (a3, a4, a5)]) fun r1 => (cond (r1 != 0) (some (0, 0, zF, 0, r1)) (f_sFillFrom_run6 (0, 0, a0, a1, a2, a3, a4, a5, 0, 0, zF))))) → (Option.bind (s_sl06All [(a0, a1, a2), (a3, a4, a5)]) fun r1 => (cond (r1 != 0) (some [.rc [.v (.int .i8 0), .v (.int .i8 0), .fa 144 .u8 zF], .v (.int .i64 0), .v (.int .i64 r1)]) (f_sFillFrom_L r 6 (f_sFillFrom_s6 0 0 a0 a1 a2 a3 a4 a5 0 0 zF)))) = some r := fun r h => (sem_bind h fun r1 h => (sem_cond h (fun h => sem_got h fun q => some_eq q) (fun h => f_sFillFrom_go6 r _ h)))
  exact go (l_sFillFrom v) ⟨v, h, rfl⟩
noncomputable def c_sFillFrom : List A → ACall
  | [.rc [.v (.int .i8 a0), .v (.int .i8 a1), .fa 144 .u8 a2], .rc [.v (.int .i8 a3), .v (.int .i8 a4), .fa 144 .u8 a5]] => ⟨(Int × Int × (Nat → Int) × Int × Int), s_sFillFrom a0 a1 a2 a3 a4 a5, fun r => .tup [.rc [.v (.int .i8 r.1), .v (.int .i8 r.2.1), .fa 144 .u8 r.2.2.1], .v (.int .i64 r.2.2.2.1), .v (.int .i64 r.2.2.2.2)]⟩
  | _ => ACall.fail
theorem f_sFillFrom_sound : Sound Try.prog 21 c_sFillFrom := by
  refine sound_good f_sFillFrom_ctx f_sFillFrom_LV 2 Try.func21 (c := f_sFillFrom_c) (by kernel_rfl) (rv := f_sFillFrom_rv) (by kernel_rfl) (by kernel_rfl) (by kernel_rfl) (by kernel_rfl) fun rs => ?_
  unfold c_sFillFrom
  split
  · rename_i a0 a1 a2 a3 a4 a5; intro v h; exact ⟨rfl, l_sFillFrom v, rfl, (f_sFillFrom_top a0 a1 a2 a3 a4 a5 _).trans (s_sFillFrom_ok a0 a1 a2 a3 a4 a5 v h)⟩
  · intro v h; cases h

/-! ### function 108: loop.example/g01322/impl.codeAlike$1 -/
noncomputable def f_icodeAlike_1_c : Code := match Try.f108.body with | some c => c | none => .skip
noncomputable def f_icodeAlike_1_X : Ctx := ⟨TT, phiOf [(63, c_iValidPicture)], noPsi⟩
def f_icodeAlike_1_LV : List (Nat × Keep) := []
def f_icodeAlike_1_rv : List ResultVar := [.tmp 2]
noncomputable def f_icodeAlike_1_L (r : List A) : Nat → AS → Option (List A) := L f_icodeAlike_1_X (cnOf f_icodeAlike_1_LV) f_icodeAlike_1_c (K0 TT f_icodeAlike_1_rv) r
theorem f_icodeAlike_1_ctx : CtxOK Try.prog f_icodeAlike_1_X := ctx_of tab mix ⟨⟨Try.call63, f_iValidPicture_sound⟩, trivial⟩
noncomputable def s_icodeAlike_1 (a0 : Int) (a1 : Int) (a2 : (Nat → Int)) : Bool := (!(s_iValidPicture a0 a1 a2))
theorem f_icodeAlike_1_top (a0 : Int) (a1 : Int) (a2 : (Nat → Int)) (r : List A) : ev f_icodeAlike_1_X (lpc (cnOf f_icodeAlike_1_LV) (f_icodeAlike_1_L r)) f_icodeAlike_1_c (K0 TT f_icodeAlike_1_rv) (enter [.rc [.v (.int .i8 a0), .v (.int .i8 a1), .fa 144 .u8 a2]]) = (some [.v (.bool (!(s_iValidPicture a0 a1 a2)))]) := by kernel_rfl
noncomputable def l_icodeAlike_1 (r : Bool) : List A := [.v (.bool r)]
theorem s_icodeAlike_1_ok (a0 : Int) (a1 : Int) (a2 : (Nat → Int)) : (some [.v (.bool (!(s_iValidPicture a0 a1 a2)))]) = some (l_icodeAlike_1 (s_icodeAlike_1 a0 a1 a2)) := by
  unfold s_icodeAlike_1
  exact rfl
noncomputable def c_icodeAlike_1 : List A → ACall
  | [.rc [.v (.int .i8 a0), .v (.int .i8 a1), .fa 144 .u8 a2]] => ⟨Bool, some (s_icodeAlike_1 a0 a1 a2), fun r => .one (.v (.bool r))⟩
  | _ => ACall.fail
theorem f_icodeAlike_1_sound : Sound Try.prog 108 c_icodeAlike_1 := by
  refine sound_good f_icodeAlike_1_ctx f_icodeAlike_1_LV 1 Try.func108 (c := f_icodeAlike_1_c) (by kernel_rfl) (rv := f_icodeAlike_1_rv) (by kernel_rfl) (by kernel_rfl) (by kernel_rfl) (by kernel_rfl) fun rs => ?_
  unfold c_icodeAlike_1
  split
  · rename_i a0 a1 a2; intro v h; cases h; exact ⟨rfl, l_icodeAlike_1 (s_icodeAlike_1 a0 a1 a2), rfl, (f_icodeAlike_1_top a0 a1 a2 _).trans (s_icodeAlike_1_ok a0 a1 a2)⟩
  · intro v h; cases h

/-! ### function 122: slices.IndexFunc[[]loop.example/g01322/impl.Picture,loop.example/g01322/impl.Picture] -/
noncomputable def f_gIndexFunc_Picture_a_c : Code := match Try.f122.body with | some c => c | none => .skip
noncomputable def f_gIndexFunc_Picture_a_X : Ctx := ⟨TT, phiOf [(108, c_icodeAlike_1)], noPsi⟩
def f_gIndexFunc_Picture_a_LV : List (Nat × Keep) := [(2, ([0, 1, 7, 8], [], []))]
def f_gIndexFunc_Picture_a_rv : List ResultVar := [.tmp 4]
noncomputable def f_gIndexFunc_Picture_a_L (r : List A) : Nat → AS → Option (List A) := L f_gIndexFunc_Picture_a_X (cnOf f_gIndexFunc_Picture_a_LV) f_gIndexFunc_Picture_a_c (K0 TT f_gIndexFunc_Picture_a_rv) r
theorem f_gIndexFunc_Picture_a_ctx : CtxOK Try.prog f_gIndexFunc_Picture_a_X := ctx_of tab mix ⟨⟨Try.call108, f_icodeAlike_1_sound⟩, trivial⟩
noncomputable def f_gIndexFunc_Picture_a_s2 (x0 : Int) (x1 : Int) (x2 : (List (Int × Int × (Nat → Int)))) : AS := ⟨[(0, .a (.sl 0)), (1, .a (.clo 108 [])), (7, .a (.v (.int .i64 x0))), (8, .a (.v (.int .i64 x1)))], [(0, some ⟨false, .arr (.st [(.i .i8), (.i .i8), (.fa 144 .u8)]) x2⟩)], 1⟩
noncomputable def l_gIndexFunc_Picture_a (r : Int) : List A := [.v (.int .i64 r)]
theorem f_gIndexFunc_Picture_a_step2 (x0 : Int) (x1 : Int) (x2 : (List (Int × Int × (Nat → Int)))) (r : List A) (h : (cond (decide (x1 < x0)) (cond (inB x1 (List.length x2)) (cond (s_icodeAlike_1 (List.getD x2 (Int.toNat x1) ((0, 0, zF) : (Int × Int × (Nat → Int)))).1 (List.getD x2 (Int.toNat x1) ((0, 0, zF) : (Int × Int × (Nat → Int)))).2.1 (List.getD x2 (Int.toNat x1) ((0, 0, zF) : (Int × Int × (Nat → Int)))).2.2) (some [.v (.int .i64 x1)]) (f_gIndexFunc_Picture_a_L r 2 (f_gIndexFunc_Picture_a_s2 x0 (IntKind.wrap .i64 (x1 + 1)) x2))) none) (some [.v (.int .i64 (-1))])) = some r) : f_gIndexFunc_Picture_a_L r 2 (f_gIndexFunc_Picture_a_s2 x0 x1 x2) = some r :=
  step_of' h (by kernel_rfl)
noncomputable def f_gIndexFunc_Picture_a_n2 (x0 : Int) (x1 : Int) (x2 : (List (Int × Int × (Nat → Int)))) : Option ((Int × Int × (List (Int × Int × (Nat → Int)))) ⊕ Int) := (cond (decide (x1 < x0)) (cond (inB x1 (List.length x2)) (cond (s_icodeAlike_1 (List.getD x2 (Int.toNat x1) ((0, 0, zF) : (Int × Int × (Nat → Int)))).1 (List.getD x2 (Int.toNat x1) ((0, 0, zF) : (Int × Int × (Nat → Int)))).2.1 (List.getD x2 (Int.toNat x1) ((0, 0, zF) : (Int × Int × (Nat → Int)))).2.2) (some (Sum.inr x1)) (some (Sum.inl (x0, (IntKind.wrap .i64 (x1 + 1)), x2)))) none) (some (Sum.inr (-1))))
noncomputable def f_gIndexFunc_Picture_a_run2 (x : (Int × Int × (List (Int × Int × (Nat → Int))))) : Option Int := iter (fun x => f_gIndexFunc_Picture_a_n2 x.1 x.2.1 x.2.2) FU x
noncomputable def f_gIndexFunc_Picture_a_G2 (r : List A) (x : (Int × Int × (List (Int × Int × (Nat → Int))))) : Prop := f_gIndexFunc_Picture_a_L r 2 (f_gIndexFunc_Picture_a_s2 x.1 x.2.1 x.2.2) = some r
noncomputable def f_gIndexFunc_Picture_a_S2 (r : List A) : Int → Prop := fun v => r = l_gIndexFunc_Picture_a v
theorem f_gIndexFunc_Picture_a_go2 (r : List A) : ∀ x, sem (f_gIndexFunc_Picture_a_S2 r) (f_gIndexFunc_Picture_a_run2 x) → f_gIndexFunc_Picture_a_G2 r x :=
  fun x => iter_sound (step := fun x => f_gIndexFunc_Picture_a_n2 x.1 x.2.1 x.2.2) (fun x h => by
    unfold f_gIndexFunc_Picture_a_n2 at h
    exact f_gIndexFunc_Picture_a_step2 x.1 x.2.1 x.2.2 r ((sem_cond h (fun h => (sem_cond h (fun h => (sem_cond h (fun h => sem_got h fun q => some_eq q) (fun h => sem_got h fun q => q))) (fun h => sem_none h))) (fun h => sem_got h fun q => some_eq q)))) FU x
noncomputable def s_gIndexFunc_Picture_a (a0 : (List (Int × Int × (Nat → Int)))) : Option Int := (f_gIndexFunc_Picture_a_run2 (((List.length a0 : Nat) : Int), 0, a0))
theorem f_gIndexFunc_Picture_a_top (a0 : (List (Int × Int × (Nat → Int)))) (r : List A) : ev f_gIndexFunc_Picture_a_X (lpc (cnOf f_gIndexFunc_Picture_a_LV) (f_gIndexFunc_Picture_a_L r)) f_gIndexFunc_Picture_a_c (K0 TT f_gIndexFunc_Picture_a_rv) (enter [.lst (.st [(.i .i8), (.i .i8), (.fa 144 .u8)]) a0, .clo 108 []]) = (f_gIndexFunc_Picture_a_L r 2 (f_gIndexFunc_Picture_a_s2 ((List.length a0 : Nat) : Int) 0 a0)) := by kernel_rfl
theorem s_gIndexFunc_Picture_a_ok (a0 : (List (Int × Int × (Nat → Int)))) (v : Int) (h : s_gIndexFunc_Picture_a a0 = some v) : (f_gIndexFunc_Picture_a_L (l_gIndexFunc_Picture_a v) 2 (f_gIndexFunc_Picture_a_s2 ((List.length a0 : Nat) : Int) 0 a0)) = some (l_gIndexFunc_Picture_a v) := by
  unfold s_gIndexFunc_Picture_a at h
  have go : ∀ r, sem (fun v => r = l_gIndexFunc_Picture_a v) ((f_gIndexFunc_Picture_a_run2 (((List.length a0 : Nat) : Int), 0, a0))) → (f_gIndexFunc_Picture_a_L r 2 (f_gIndexFunc_Picture_a_s2 ((List.length a0 : Nat) : Int) 0 a0)) = some r := fun r h => f_gIndexFunc_Picture_a_go2 r _ h
  exact go (l_gIndexFunc_Picture_a v) ⟨v, h, rfl⟩
noncomputable def c_gIndexFunc_Picture_a : List A → ACall
  | [.lst (.st [(.i .i8), (.i .i8), (.fa 144 .u8)]) a0, .clo 108 []] => ⟨Int, s_gIndexFunc_Picture_a a0, fun r => .one (.v (.int .i64 r))⟩
  | _ => ACall.fail
theorem f_gIndexFunc_Picture_a_sound : Sound Try.prog 122 c_gIndexFunc_Picture_a := by
  refine sound_good f_gIndexFunc_Picture_a_ctx f_gIndexFunc_Picture_a_LV 2 Try.func122 (c := f_gIndexFunc_Picture_a_c) (by kernel_rfl) (rv := f_gIndexFunc_Picture_a_rv) (by kernel_rfl) (by kernel_rfl) (by kernel_rfl) (by kernel_rfl) fun rs => ?_
  unfold c_gIndexFunc_Picture_a
  split
  · rename_i a0; intro v h; exact ⟨rfl, l_gIndexFunc_Picture_a v, rfl, (f_gIndexFunc_Picture_a_top a0 _).trans (s_gIndexFunc_Picture_a_ok a0 v h)⟩
  · intro v h; cases h
def m_gIndexFunc_Picture_a : List A → Bool
  | [_, .clo 108 _] => true
  | _ => false

/-! ### function 107: slices.ContainsFunc[[]loop.example/g01322/impl.Picture,loop.example/g01322/impl.Picture] -/
noncomputable def f_gContainsFunc_Picture_a_c : Code := match Try.f107.body with | some c => c | none => .skip
noncomputable def f_gContainsFunc_Picture_a_X : Ctx := ⟨TT, phiOf [(122, c_gIndexFunc_Picture_a)], noPsi⟩
def f_gContainsFunc_Picture_a_LV : List (Nat × Keep) := []
def f_gContainsFunc_Picture_a_rv : List ResultVar := [.tmp 4]
noncomputable def f_gContainsFunc_Picture_a_L (r : List A) : Nat → AS → Option (List A) := L f_gContainsFunc_Picture_a_X (cnOf f_gContainsFunc_Picture_a_LV) f_gContainsFunc_Picture_a_c (K0 TT f_gContainsFunc_Picture_a_rv) r
theorem f_gContainsFunc_Picture_a_ctx : CtxOK Try.prog f_gContainsFunc_Picture_a_X := ctx_of tab mix ⟨⟨Try.call122, f_gIndexFunc_Picture_a_sound⟩, trivial⟩
noncomputable def s_gContainsFunc_Picture_a (a0 : (List (Int × Int × (Nat → Int)))) : Option Bool := (Option.bind (s_gIndexFunc_Picture_a a0) fun r1 => (some (decide (r1 ≥ 0))))
theorem f_gContainsFunc_Picture_a_top (a0 : (List (Int × Int × (Nat → Int)))) (r : List A) : ev f_gContainsFunc_Picture_a_X (lpc (cnOf f_gContainsFunc_Picture_a_LV) (f_gContainsFunc_Picture_a_L r)) f_gContainsFunc_Picture_a_c (K0 TT f_gContainsFunc_Picture_a_rv) (enter [.lst (.st [(.i .i8), (.i .i8), (.fa 144 .u8)]) a0, .clo 108 []]) = (Option.bind (s_gIndexFunc_Picture_a a0) fun r1 => (some [.v (.bool (decide (r1 ≥ 0)))])) := by kernel_rfl
noncomputable def l_gContainsFunc_Picture_a (r : Bool) : List A := [.v (.bool r)]
theorem s_gContainsFunc_Picture_a_ok (a0 : (List (Int × Int × (Nat → Int)))) (v : Bool) (h : s_gContainsFunc_Picture_a a0 = some v) : (Option.bind (s_gIndexFunc_Picture_a a0) fun r1 => (some [.v (.bool (decide (r1 ≥ 0)))])) = some (l_gContainsFunc_Picture_a v) := by
  have e : (Option.bind (s_gIndexFunc_Picture_a a0) fun r1 => (some [.v (.bool (decide (r1 ≥ 0)))])) = Option.map l_gContainsFunc_Picture_a (s_gContainsFunc_Picture_a a0) := by
    unfold s_gContainsFunc_Picture_a
    exact (bind_app fun _ => rfl)
  rw [e, h]; rfl
noncomputable def c_gContainsFunc_Picture_a : List A → ACall
  | [.lst (.st [(.i .i8), (.i .i8), (.fa 144 .u8)]) a0, .clo 108 []] => ⟨Bool, s_gContainsFunc_Picture_a a0, fun r => .one (.v (.bool r))⟩
  | _ => ACall.fail
theorem f_gContainsFunc_Picture_a_sound : Sound Try.prog 107 c_gContainsFunc_Picture_a := by
  refine sound_good f_gContainsFunc_Picture_a_ctx f_gContainsFunc_Picture_a_LV 2 Try.func107 (c := f_gContainsFunc_Picture_a_c) (by kernel_rfl) (rv := f_gContainsFunc_Picture_a_rv) (by kernel_rfl) (by kernel_rfl) (by kernel_rfl) (by kernel_rfl) fun rs => ?_
  unfold c_gContainsFunc_Picture_a
  split
  · rename_i a0; intro v h; exact ⟨rfl, l_gContainsFunc_Picture_a v, rfl, (f_gContainsFunc_Picture_a_top a0 _).trans (s_gContainsFunc_Picture_a_ok a0 v h)⟩
  · intro v h; cases h
def m_gContainsFunc_Picture_a : List A → Bool
  | [_, .clo 108 _] => true
  | _ => false

/-! ### function 109: loop.example/g01322/impl.codeAlike$2 -/
noncomputable def f_icodeAlike_2_c : Code := match Try.f109.body with | some c => c | none => .skip
noncomputable def f_icodeAlike_2_X : Ctx := ⟨TT, phiOf [], noPsi⟩
def f_icodeAlike_2_LV : List (Nat × Keep) := []
def f_icodeAlike_2_rv : List ResultVar := [.tmp 3]
noncomputable def f_icodeAlike_2_L (r : List A) : Nat → AS → Option (List A) := L f_icodeAlike_2_X (cnOf f_icodeAlike_2_LV) f_icodeAlike_2_c (K0 TT f_icodeAlike_2_rv) r
theorem f_icodeAlike_2_ctx : CtxOK Try.prog f_icodeAlike_2_X := ctx_of tab mix trivial
noncomputable def s_icodeAlike_2 (a0 : Int) (a1 : Int) (a2 : (Nat → Int)) (a3 : (List (Int × Int × (Nat → Int)))) : Option Bool := (cond (inB 0 (List.length a3)) (cond (a0 != (List.getD a3 0 ((0, 0, zF) : (Int × Int × (Nat → Int)))).1) (some true) (cond (inB 0 (List.length a3)) (some (a1 != (List.getD a3 0 ((0, 0, zF) : (Int × Int × (Nat → Int)))).2.1)) none)) none)
theorem f_icodeAlike_2_top (a0 : Int) (a1 : Int) (a2 : (Nat → Int)) (a3 : (List (Int × Int × (Nat → Int)))) (r : List A) : ev f_icodeAlike_2_X (lpc (cnOf f_icodeAlike_2_LV) (f_icodeAlike_2_L r)) f_icodeAlike_2_c (K0 TT f_icodeAlike_2_rv) (enter [.rc [.v (.int .i8 a0), .v (.int .i8 a1), .fa 144 .u8 a2], .ref (.lst (.st [(.i .i8), (.i .i8), (.fa 144 .u8)]) a3)]) = (cond (inB 0 (List.length a3)) (cond (a0 != (List.getD a3 0 ((0, 0, zF) : (Int × Int × (Nat → Int)))).1) (some [.v (.bool true)]) (cond (inB 0 (List.length a3)) (some [.v (.bool (a1 != (List.getD a3 0 ((0, 0, zF) : (Int × Int × (Nat → Int)))).2.1))]) none)) none) := by kernel_rfl
noncomputable def l_icodeAlike_2 (r : Bool) : List A := [.v (.bool r)]
theorem s_icodeAlike_2_ok (a0 : Int) (a1 : Int) (a2 : (Nat → Int)) (a3 : (List (Int × Int × (Nat → Int)))) (v : Bool) (h : s_icodeAlike_2 a0 a1 a2 a3 = some v) : (cond (inB 0 (List.length a3)) (cond (a0 != (List.getD a3 0 ((0, 0, zF) : (Int × Int × (Nat → Int)))).1) (some [.v (.bool true)]) (cond (inB 0 (List.length a3)) (some [.v (.bool (a1 != (List.getD a3 0 ((0, 0, zF) : (Int × Int × (Nat → Int)))).2.1))]) none)) none) = some (l_icodeAlike_2 v) := by
  have e : (cond (inB 0 (List.length a3)) (cond (a0 != (List.getD a3 0 ((0, 0, zF) : (Int × Int × (Nat → Int)))).1) (some [.v (.bool true)]) (cond (inB 0 (List.length a3)) (some [.v (.bool (a1 != (List.getD a3 0 ((0, 0, zF) : (Int × Int × (Nat → Int)))).2.1))]) none)) none) = Option.map l_icodeAlike_2 (s_icodeAlike_2 a0 a1 a2 a3) := by
    unfold s_icodeAlike_2
    exact (cond_app (Option.map l_icodeAlike_2) (cond_app (Option.map l_icodeAlike_2) rfl (cond_app (Option.map l_icodeAlike_2) rfl rfl)) rfl)
  rw [e, h]; rfl
noncomputable def c_icodeAlike_2 : List A → ACall
  | [.rc [.v (.int .i8 a0), .v (.int .i8 a1), .fa 144 .u8 a2], .ref (.lst (.st [(.i .i8), (.i .i8), (.fa 144 .u8)]) a3)] => ⟨Bool, s_icodeAlike_2 a0 a1 a2 a3, fun r => .one (.v (.bool r))⟩
  | _ => ACall.fail
theorem f_icodeAlike_2_sound : Sound Try.prog 109 c_icodeAlike_2 := by
  refine sound_good f_icodeAlike_2_ctx f_icodeAlike_2_LV 2 Try.func109 (c := f_icodeAlike_2_c) (by kernel_rfl) (rv := f_icodeAlike_2_rv) (by kernel_rfl) (by kernel_rfl) (by kernel_rfl) (by kernel_rfl) fun rs => ?_
  unfold c_icodeAlike_2
  split
  · rename_i a0 a1 a2 a3; intro v h; exact ⟨rfl, l_icodeAlike_2 v, rfl, (f_icodeAlike_2_top a0 a1 a2 a3 _).trans (s_icodeAlike_2_ok a0 a1 a2 a3 v h)⟩
  · intro v h; cases h

/-! ### function 122: slices.IndexFunc[[]loop.example/g01322/impl.Picture,loop.example/g01322/impl.Picture] -/
noncomputable def f_gIndexFunc_Picture_b_c : Code := match Try.f122.body with | some c => c | none => .skip
noncomputable def f_gIndexFunc_Picture_b_X : Ctx := ⟨TT, phiOf [(109, c_icodeAlike_2)], noPsi⟩
def f_gIndexFunc_Picture_b_LV : List (Nat × Keep) := [(2, ([0, 1, 7, 8], [], []))]
def f_gIndexFunc_Picture_b_rv : List ResultVar := [.tmp 4]
noncomputable def f_gIndexFunc_Picture_b_L (r : List A) : Nat → AS → Option (List A) := L f_gIndexFunc_Picture_b_X (cnOf f_gIndexFunc_Picture_b_LV) f_gIndexFunc_Picture_b_c (K0 TT f_gIndexFunc_Picture_b_rv) r
theorem f_gIndexFunc_Picture_b_ctx : CtxOK Try.prog f_gIndexFunc_Picture_b_X := ctx_of tab mix ⟨⟨Try.call109, f_icodeAlike_2_sound⟩, trivial⟩
noncomputable def f_gIndexFunc_Picture_b_s2 (x0 : Int) (x1 : Int) (x2 : (List (Int × Int × (Nat → Int)))) (x3 : (List (Int × Int × (Nat → Int)))) : AS := ⟨[(0, .a (.sl 0)), (1, .a (.clo 109 [.ptr 1 [] (0)])), (7, .a (.v (.int .i64 x0))), (8, .a (.v (.int .i64 x1)))], [(0, some ⟨false, .arr (.st [(.i .i8), (.i .i8), (.fa 144 .u8)]) x2⟩), (1, some ⟨false, .box (.sl 2)⟩), (2, some ⟨false, .arr (.st [(.i .i8), (.i .i8), (.fa 144 .u8)]) x3⟩)], 3⟩
noncomputable def l_gIndexFunc_Picture_b (r : Int) : List A := [.v (.int .i64 r)]
theorem f_gIndexFunc_Picture_b_step2 (x0 : Int) (x1 : Int) (x2 : (List (Int × Int × (Nat → Int)))) (x3 : (List (Int × Int × (Nat → Int)))) (r : List A) (h : (cond (decide (x1 < x0)) (cond (inB x1 (List.length x2)) (Option.bind (s_icodeAlike_2 (List.getD x2 (Int.toNat x1) ((0, 0, zF) : (Int × Int × (Nat → Int)))).1 (List.getD x2 (Int.toNat x1) ((0, 0, zF) : (Int × Int × (Nat → Int)))).2.1 (List.getD x2 (Int.toNat x1) ((0, 0, zF) : (Int × Int × (Nat → Int)))).2.2 x3) fun r1 => (cond r1 (some [.v (.int .i64 x1)]) (f_gIndexFunc_Picture_b_L r 2 (f_gIndexFunc_Picture_b_s2 x0 (IntKind.wrap .i64 (x1 + 1)) x2 x3)))) none) (some [.v (.int .i64 (-1))])) = some r) : f_gIndexFunc_Picture_b_L r 2 (f_gIndexFunc_Picture_b_s2 x0 x1 x2 x3) = some r :=
  step_of' h (by kernel_rfl)
noncomputable def f_gIndexFunc_Picture_b_n2 (x0 : Int) (x1 : Int) (x2 : (List (Int × Int × (Nat → Int)))) (x3 : (List (Int × Int × (Nat → Int)))) : Option ((Int × Int × (List (Int × Int × (Nat → Int))) × (List (Int × Int × (Nat → Int)))) ⊕ Int) := (cond (decide (x1 < x0)) (cond (inB x1 (List.length x2)) (Option.bind (s_icodeAlike_2 (List.getD x2 (Int.toNat x1) ((0, 0, zF) : (Int × Int × (Nat → Int)))).1 (List.getD x2 (Int.toNat x1) ((0, 0, zF) : (Int × Int × (Nat → Int)))).2.1 (List.getD x2 (Int.toNat x1) ((0, 0, zF) : (Int × Int × (Nat → Int)))).2.2 x3) fun r1 => (cond r1 (some (Sum.inr x1)) (some (Sum.inl (x0, (IntKind.wrap .i64 (x1 + 1)), x2, x3))))) none) (some (Sum.inr (-1))))
noncomputable def f_gIndexFunc_Picture_b_run2 (x : (Int × Int × (List (Int × Int × (Nat → Int))) × (List (Int × Int × (Nat → Int))))) : Option Int := iter (fun x => f_gIndexFunc_Picture_b_n2 x.1 x.2.1 x.2.2.1 x.2.2.2) FU x
noncomputable def f_gIndexFunc_Picture_b_G2 (r : List A) (x : (Int × Int × (List (Int × Int × (Nat → Int))) × (List (Int × Int × (Nat → Int))))) : Prop := f_gIndexFunc_Picture_b_L r 2 (f_gIndexFunc_Picture_b_s2 x.1 x.2.1 x.2.2.1 x.2.2.2) = some r
noncomputable def f_gIndexFunc_Picture_b_S2 (r : List A) : Int → Prop := fun v => r = l_gIndexFunc_Picture_b v
theorem f_gIndexFunc_Picture_b_go2 (r : List A) : ∀ x, sem (f_gIndexFunc_Picture_b_S2 r) (f_gIndexFunc_Picture_b_run2 x) → f_gIndexFunc_Picture_b_G2 r x :=
  fun x => iter_sound (step := fun x => f_gIndexFunc_Picture_b_n2 x.1 x.2.1 x.2.2.1 x.2.2.2) (fun x h => by
    unfold f_gIndexFunc_Picture_b_n2 at h
    exact f_gIndexFunc_Picture_b_step2 x.1 x.2.1 x.2.2.1 x.2.2.2 r ((sem_cond h (fun h => (sem_cond h (fun h => (sem_bind h fun r1 h => (sem_cond h (fun h => sem_got h fun q => some_eq q) (fun h => sem_got h fun q => q)))) (fun h => sem_none h))) (fun h => sem_got h fun q => some_eq q)))) FU x
noncomputable def s_gIndexFunc_Picture_b (a0 : (List (Int × Int × (Nat → Int)))) (a1 : (List (Int × Int × (Nat → Int)))) : Option Int := (f_gIndexFunc_Picture_b_run2 (((List.length a0 : Nat) : Int), 0, a0, a1))
theorem f_gIndexFunc_Picture_b_top (a0 : (List (Int × Int × (Nat → Int)))) (a1 : (List (Int × Int × (Nat → Int)))) (r : List A) : ev f_gIndexFunc_Picture_b_X (lpc (cnOf f_gIndexFunc_Picture_b_LV) (f_gIndexFunc_Picture_b_L r)) f_gIndexFunc_Picture_b_c (K0 TT f_gIndexFunc_Picture_b_rv) (enter [.lst (.st [(.i .i8), (.i .i8), (.fa 144 .u8)]) a0, .clo 109 [.ref (.lst (.st [(.i .i8), (.i .i8), (.fa 144 .u8)]) a1)]]) = (f_gIndexFunc_Picture_b_L r 2 (f_gIndexFunc_Picture_b_s2 ((List.length a0 : Nat) : Int) 0 a0 a1)) := by kernel_rfl
theorem s_gIndexFunc_Picture_b_ok (a0 : (List (Int × Int × (Nat → Int)))) (a1 : (List (Int × Int × (Nat → Int)))) (v : Int) (h : s_gIndexFunc_Picture_b a0 a1 = some v) : (f_gIndexFunc_Picture_b_L (l_gIndexFunc_Picture_b v) 2 (f_gIndexFunc_Picture_b_s2 ((List.length a0 : Nat) : Int) 0 a0 a1)) = some (l_gIndexFunc_Picture_b v) := by
  unfold s_gIndexFunc_Picture_b at h
  have go : ∀ r, sem (fun v => r = l_gIndexFunc_Picture_b v) ((f_gIndexFunc_Picture_b_run2 (((List.length a0 : Nat) : Int), 0, a0, a1))) → (f_gIndexFunc_Picture_b_L r 2 (f_gIndexFunc_Picture_b_s2 ((List.length a0 : Nat) : Int) 0 a0 a1)) = some r := fun r h => f_gIndexFunc_Picture_b_go2 r _ h
  exact go (l_gIndexFunc_Picture_b v) ⟨v, h, rfl⟩
noncomputable def c_gIndexFunc_Picture_b : List A → ACall
  | [.lst (.st [(.i .i8), (.i .i8), (.fa 144 .u8)]) a0, .clo 109 [.ref (.lst (.st [(.i .i8), (.i .i8), (.fa 144 .u8)]) a1)]] => ⟨Int, s_gIndexFunc_Picture_b a0 a1, fun r => .one (.v (.int .i64 r))⟩
  | _ => ACall.fail
theorem f_gIndexFunc_Picture_b_sound : Sound Try.prog 122 c_gIndexFunc_Picture_b := by
  refine sound_good f_gIndexFunc_Picture_b_ctx f_gIndexFunc_Picture_b_LV 2 Try.func122 (c := f_gIndexFunc_Picture_b_c) (by kernel_rfl) (rv := f_gIndexFunc_Picture_b_rv) (by kernel_rfl) (by kernel_rfl) (by kernel_rfl) (by kernel_rfl) fun rs => ?_
  unfold c_gIndexFunc_Picture_b
  split
  · rename_i a0 a1; intro v h; exact ⟨rfl, l_gIndexFunc_Picture_b v, rfl, (f_gIndexFunc_Picture_b_top a0 a1 _).trans (s_gIndexFunc_Picture_b_ok a0 a1 v h)⟩
  · intro v h; cases h
def m_gIndexFunc_Picture_b : List A → Bool
  | [_, .clo 109 _] => true
  | _ => false

/-! ### function 107: slices.ContainsFunc[[]loop.example/g01322/impl.Picture,loop.example/g01322/impl.Picture] -/
noncomputable def f_gContainsFunc_Picture_b_c : Code := match Try.f107.body with | some c => c | none => .skip
noncomputable def f_gContainsFunc_Picture_b_X : Ctx := ⟨TT, phiOf [(122, c_gIndexFunc_Picture_b)], noPsi⟩
def f_gContainsFunc_Picture_b_LV : List (Nat × Keep) := []
def f_gContainsFunc_Picture_b_rv : List ResultVar := [.tmp 4]
noncomputable def f_gContainsFunc_Picture_b_L (r : List A) : Nat → AS → Option (List A) := L f_gContainsFunc_Picture_b_X (cnOf f_gContainsFunc_Picture_b_LV) f_gContainsFunc_Picture_b_c (K0 TT f_gContainsFunc_Picture_b_rv) r
theorem f_gContainsFunc_Picture_b_ctx : CtxOK Try.prog f_gContainsFunc_Picture_b_X := ctx_of tab mix ⟨⟨Try.call122, f_gIndexFunc_Picture_b_sound⟩, trivial⟩
noncomputable def s_gContainsFunc_Picture_b (a0 : (List (Int × Int × (Nat → Int)))) (a1 : (List (Int × Int × (Nat → Int)))) : Option Bool := (Option.bind (s_gIndexFunc_Picture_b a0 a1) fun r1 => (some (decide (r1 ≥ 0))))
theorem f_gContainsFunc_Picture_b_top (a0 : (List (Int × Int × (Nat → Int)))) (a1 : (List (Int × Int × (Nat → Int)))) (r : List A) : ev f_gContainsFunc_Picture_b_X (lpc (cnOf f_gContainsFunc_Picture_b_LV) (f_gContainsFunc_Picture_b_L r)) f_gContainsFunc_Picture_b_c (K0 TT f_gContainsFunc_Picture_b_rv) (enter [.lst (.st [(.i .i8), (.i .i8), (.fa 144 .u8)]) a0, .clo 109 [.ref (.lst (.st [(.i .i8), (.i .i8), (.fa 144 .u8)]) a1)]]) = (Option.bind (s_gIndexFunc_Picture_b a0 a1) fun r1 => (some [.v (.bool (decide (r1 ≥ 0)))])) := by kernel_rfl
noncomputable def l_gContainsFunc_Picture_b (r : Bool) : List A := [.v (.bool r)]
theorem s_gContainsFunc_Picture_b_ok (a0 : (List (Int × Int × (Nat → Int)))) (a1 : (List (Int × Int × (Nat → Int)))) (v : Bool) (h : s_gContainsFunc_Picture_b a0 a1 = some v) : (Option.bind (s_gIndexFunc_Picture_b a0 a1) fun r1 => (some [.v (.bool (decide (r1 ≥ 0)))])) = some (l_gContainsFunc_Picture_b v) := by
  have e : (Option.bind (s_gIndexFunc_Picture_b a0 a1) fun r1 => (some [.v (.bool (decide (r1 ≥ 0)))])) = Option.map l_gContainsFunc_Picture_b (s_gContainsFunc_Picture_b a0 a1) := by
    unfold s_gContainsFunc_Picture_b
    exact (bind_app fun _ => rfl)
  rw [e, h]; rfl
noncomputable def c_gContainsFunc_Picture_b : List A → ACall
  | [.lst (.st [(.i .i8), (.i .i8), (.fa 144 .u8)]) a0, .clo 109 [.ref (.lst (.st [(.i .i8), (.i .i8), (.fa 144 .u8)]) a1)]] => ⟨Bool, s_gContainsFunc_Picture_b a0 a1, fun r => .one (.v (.bool r))⟩
  | _ => ACall.fail
theorem f_gContainsFunc_Picture_b_sound : Sound Try.prog 107 c_gContainsFunc_Picture_b := by
  refine sound_good f_gContainsFunc_Picture_b_ctx f_gContainsFunc_Picture_b_LV 2 Try.func107 (c := f_gContainsFunc_Picture_b_c) (by kernel_rfl) (rv := f_gContainsFunc_Picture_b_rv) (by kernel_rfl) (by kernel_rfl) (by kernel_rfl) (by kernel_rfl) fun rs => ?_
  unfold c_gContainsFunc_Picture_b
  split
  · rename_i a0 a1; intro v h; exact ⟨rfl, l_gContainsFunc_Picture_b v, rfl, (f_gContainsFunc_Picture_b_top a0 a1 _).trans (s_gContainsFunc_Picture_b_ok a0 a1 v h)⟩
  · intro v h; cases h
def m_gContainsFunc_Picture_b : List A → Bool
  | [_, .clo 109 _] => true
  | _ => false

/-! ### function 66: loop.example/g01322/impl.codeAlike -/
noncomputable def f_icodeAlike_c : Code := match Try.f66.body with | some c => c | none => .skip
noncomputable def f_icodeAlike_X : Ctx := ⟨TT, phiOf [(107, (orC m_gContainsFunc_Picture_a c_gContainsFunc_Picture_a c_gContainsFunc_Picture_b))], noPsi⟩
def f_icodeAlike_LV : List (Nat × Keep) := []
def f_icodeAlike_rv : List ResultVar := [.tmp 2]
noncomputable def f_icodeAlike_L (r : List A) : Nat → AS → Option (List A) := L f_icodeAlike_X (cnOf f_icodeAlike_LV) f_icodeAlike_c (K0 TT f_icodeAlike_rv) r
theorem f_icodeAlike_ctx : CtxOK Try.prog f_icodeAlike_X := ctx_of tab mix ⟨⟨Try.call107, (orSound f_gContainsFunc_Picture_a_sound f_gContainsFunc_Picture_b_sound)⟩, trivial⟩
noncomputable def s_icodeAlike (a0 : (List (Int × Int × (Nat → Int)))) : Option Int := (Option.bind (s_gContainsFunc_Picture_a a0) fun r1 => (cond r1 (some 1) (Option.bind (s_gContainsFunc_Picture_b a0 a0) fun r2 => (cond r2 (some 4) (some 0)))))
theorem f_icodeAlike_top (a0 : (List (Int × Int × (Nat → Int)))) (r : List A) : ev f_icodeAlike_X (lpc (cnOf f_icodeAlike_LV) (f_icodeAlike_L r)) f_icodeAlike_c (K0 TT f_icodeAlike_rv) (enter [.lst (.st [(.i .i8), (.i .i8), (.fa 144 .u8)]) a0]) = (Option.bind (s_gContainsFunc_Picture_a a0) fun r1 => (cond r1 (some [.v (.int .i64 1)]) (Option.bind (s_gContainsFunc_Picture_b a0 a0) fun r2 => (cond r2 (some [.v (.int .i64 4)]) (some [.v (.int .i64 0)]))))) := by kernel_rfl
noncomputable def l_icodeAlike (r : Int) : List A := [.v (.int .i64 r)]
theorem s_icodeAlike_ok (a0 : (List (Int × Int × (Nat → Int)))) (v : Int) (h : s_icodeAlike a0 = some v) : (Option.bind (s_gContainsFunc_Picture_a a0) fun r1 => (cond r1 (some [.v (.int .i64 1)]) (Option.bind (s_gContainsFunc_Picture_b a0 a0) fun r2 => (cond r2 (some [.v (.int .i64 4)]) (some [.v (.int .i64 0)]))))) = some (l_icodeAlike v) := by
  have e : (Option.bind (s_gContainsFunc_Picture_a a0) fun r1 => (cond r1 (some [.v (.int .i64 1)]) (Option.bind (s_gContainsFunc_Picture_b a0 a0) fun r2 => (cond r2 (some [.v (.int .i64 4)]) (some [.v (.int .i64 0)]))))) = Option.map l_icodeAlike (s_icodeAlike a0) := by
    unfold s_icodeAlike
    exact (bind_app fun _ => (cond_app (Option.map l_icodeAlike) rfl (bind_app fun _ => (cond_app (Option.map l_icodeAlike) rfl rfl))))
  rw [e, h]; rfl
noncomputable def c_icodeAlike : List A → ACall
  | [.lst (.st [(.i .i8), (.i .i8), (.fa 144 .u8)]) a0] => ⟨Int, s_icodeAlike a0, fun r => .one (.v (.int .i64 r))⟩
  | _ => ACall.fail
theorem f_icodeAlike_sound : Sound Try.prog 66 c_icodeAlike := by
  refine sound_good f_icodeAlike_ctx f_icodeAlike_LV 1 Try.func66 (c := f_icodeAlike_c) (by kernel_rfl) (rv := f_icodeAlike_rv) (by kernel_rfl) (by kernel_rfl) (by kernel_rfl) (by kernel_rfl) fun rs => ?_
  unfold c_icodeAlike
  split
  · rename_i a0; intro v h; exact ⟨rfl, l_icodeAlike v, rfl, (f_icodeAlike_top a0 _).trans (s_icodeAlike_ok a0 v h)⟩
  · intro v h; cases h

/-! ### function 119: (loop.example/g01322/impl.Image).cells -/
noncomputable def f_iImage_cells_c : Code := match Try.f119.body with | some c => c | none => .skip
noncomputable def f_iImage_cells_X : Ctx := ⟨TT, phiOf [(121, c_iisCell)], noPsi⟩
def f_iImage_cells_LV : List (Nat × Keep) := [(3, ([1, 3, 6], [], []))]
def f_iImage_cells_rv : List ResultVar := [.tmp 2]
noncomputable def f_iImage_cells_L (r : List A) : Nat → AS → Option (List A) := L f_iImage_cells_X (cnOf f_iImage_cells_LV) f_iImage_cells_c (K0 TT f_iImage_cells_rv) r
theorem f_iImage_cells_ctx : CtxOK Try.prog f_iImage_cells_X := ctx_of tab mix ⟨⟨Try.call121, f_iisCell_sound⟩, trivial⟩
noncomputable def f_iImage_cells_s3 (x0 : Int) (x1 : Int) (x2 : Int) (x3 : (Nat → Nat → Int)) (x4 : (List Int)) : AS := ⟨[(1, .a (.ptr 0 [] (0))), (3, .a (.sl 1)), (6, .a (.v (.int .i64 x0)))], [(0, some ⟨true, .box (.rc [.v (.int .i8 x1), .v (.int .i8 x2), .fa2 144 3 .u8 x3])⟩), (1, some ⟨true, .arr (.one (.i .i64)) x4⟩)], 2⟩
noncomputable def l_iImage_cells (r : (List Int)) : List A := [.lst (.one (.i .i64)) r]
theorem f_iImage_cells_step3 (x0 : Int) (x1 : Int) (x2 : Int) (x3 : (Nat → Nat → Int)) (x4 : (List Int)) (r : List A) (h : (cond (decide (x0 < 144)) (cond (s_iisCell (Int.tmod x0 12) (IntKind.wrap .i64 (Int.tdiv x0 12)) x1 x2) (cond (fits ((List.length (x4 : List Int) + List.length ([x0] : List Int)) * 8)) (f_iImage_cells_L r 3 (f_iImage_cells_s3 (IntKind.wrap .i64 (x0 + 1)) x1 x2 x3 (x4 ++ [x0]))) none) (f_iImage_cells_L r 3 (f_iImage_cells_s3 (IntKind.wrap .i64 (x0 + 1)) x1 x2 x3 x4))) (some [.lst (.one (.i .i64)) x4])) = some r) : f_iImage_cells_L r 3 (f_iImage_cells_s3 x0 x1 x2 x3 x4) = some r :=
  step_of' h (by kernel_rfl)
noncomputable def f_iImage_cells_n3 (x0 : Int) (x1 : Int) (x2 : Int) (x3 : (Nat → Nat → Int)) (x4 : (List Int)) : Option ((Int × Int × Int × (Nat → Nat → Int) × (List Int)) ⊕ (List Int)) := (cond (decide (x0 < 144)) (cond (s_iisCell (Int.tmod x0 12) (IntKind.wrap .i64 (Int.tdiv x0 12)) x1 x2) (cond (fits ((List.length (x4 : List Int) + List.length ([x0] : List Int)) * 8)) (some (Sum.inl ((IntKind.wrap .i64 (x0 + 1)), x1, x2, x3, (x4 ++ [x0])))) none) (some (Sum.inl ((IntKind.wrap .i64 (x0 + 1)), x1, x2, x3, x4)))) (some (Sum.inr x4)))
noncomputable def f_iImage_cells_run3 (x : (Int × Int × Int × (Nat → Nat → Int) × (List Int))) : Option (List Int) := iter (fun x => f_iImage_cells_n3 x.1 x.2.1 x.2.2.1 x.2.2.2.1 x.2.2.2.2) FU x
noncomputable def f_iImage_cells_G3 (r : List A) (x : (Int × Int × Int × (Nat → Nat → Int) × (List Int))) : Prop := f_iImage_cells_L r 3 (f_iImage_cells_s3 x.1 x.2.1 x.2.2.1 x.2.2.2.1 x.2.2.2.2) = some r
noncomputable def f_iImage_cells_S3 (r : List A) : (List Int) → Prop := fun v => r = l_iImage_cells v
theorem f_iImage_cells_go3 (r : List A) : ∀ x, sem (f_iImage_cells_S3 r) (f_iImage_cells_run3 x) → f_iImage_cells_G3 r x :=
  fun x => iter_sound (step := fun x => f_iImage_cells_n3 x.1 x.2.1 x.2.2.1 x.2.2.2.1 x.2.2.2.2) (fun x h => by
    unfold f_iImage_cells_n3 at h
    exact f_iImage_cells_step3 x.1 x.2.1 x.2.2.1 x.2.2.2.1 x.2.2.2.2 r ((sem_cond h (fun h => (sem_cond h (fun h => (sem_cond h (fun h => sem_got h fun q => q) (fun h => sem_none h))) (fun h => sem_got h fun q => q))) (fun h => sem_got h fun q => some_eq q)))) FU x
noncomputable def s_iImage_cells (a0 : Int) (a1 : Int) (a2 : (Nat → Nat → Int)) : Option (List Int) := (f_iImage_cells_run3 (0, a0, a1, a2, []))
theorem f_iImage_cells_top (a0 : Int) (a1 : Int) (a2 : (Nat → Nat → Int)) (r : List A) : ev f_iImage_cells_X (lpc (cnOf f_iImage_cells_LV) (f_iImage_cells_L r)) f_iImage_cells_c (K0 TT f_iImage_cells_rv) (enter [.rc [.v (.int .i8 a0), .v (.int .i8 a1), .fa2 144 3 .u8 a2]]) = (f_iImage_cells_L r 3 (f_iImage_cells_s3 0 a0 a1 a2 [])) := by kernel_rfl
theorem s_iImage_cells_ok (a0 : Int) (a1 : Int) (a2 : (Nat → Nat → Int)) (v : (List Int)) (h : s_iImage_cells a0 a1 a2 = some v) : (f_iImage_cells_L (l_iImage_cells v) 3 (f_iImage_cells_s3 0 a0 a1 a2 [])) = some (l_iImage_cells v) := by
  unfold s_iImage_cells at h
  have go : ∀ r, sem (fun v => r = l_iImage_cells v) ((f_iImage_cells_run3 (0, a0, a1, a2, []))) → (f_iImage_cells_L r 3 (f_iImage_cells_s3 0 a0 a1 a2 [])) = some r := fun r h => f_iImage_cells_go3 r _ h
  exact go (l_iImage_cells v) ⟨v, h, rfl⟩
noncomputable def c_iImage_cells : List A → ACall
  | [.rc [.v (.int .i8 a0), .v (.int .i8 a1), .fa2 144 3 .u8 a2]] => ⟨(List Int), s_iImage_cells a0 a1 a2, fun r => .one (.lst (.one (.i .i64)) r)⟩
  | _ => ACall.fail
theorem f_iImage_cells_sound : Sound Try.prog 119 c_iImage_cells := by
  refine sound_good f_iImage_cells_ctx f_iImage_cells_LV 1 Try.func119 (c := f_iImage_cells_c) (by kernel_rfl) (rv := f_iImage_cells_rv) (by kernel_rfl) (by kernel_rfl) (by kernel_rfl) (by kernel_rfl) fun rs => ?_
  unfold c_iImage_cells
  split
  · rename_i a0 a1 a2; intro v h; exact ⟨rfl, l_iImage_cells v, rfl, (f_iImage_cells_top a0 a1 a2 _).trans (s_iImage_cells_ok a0 a1 a2 v h)⟩
  · intro v h; cases h

/-! ### function 97: (loop.example/g01322/impl.Picture).numbers -/
noncomputable def f_iPicture_numbers_c : Code := match Try.f97.body with | some c => c | none => .skip
noncomputable def f_iPicture_numbers_X : Ctx := ⟨TT, phiOf [(119, c_iImage_cells)], noPsi⟩
def f_iPicture_numbers_LV : List (Nat × Keep) := []
def f_iPicture_numbers_rv : List ResultVar := [.tmp 2]
noncomputable def f_iPicture_numbers_L (r : List A) : Nat → AS → Option (List A) := L f_iPicture_numbers_X (cnOf f_iPicture_numbers_LV) f_iPicture_numbers_c (K0 TT f_iPicture_numbers_rv) r
theorem f_iPicture_numbers_ctx : CtxOK Try.prog f_iPicture_numbers_X := ctx_of tab mix ⟨⟨Try.call119, f_iImage_cells_sound⟩, trivial⟩
noncomputable def s_iPicture_numbers (a0 : Int) (a1 : Int) (a2 : (Nat → Int)) : Option (List Int) := (Option.bind (s_iImage_cells a0 a1 zF2) fun r1 => (some r1))
theorem f_iPicture_numbers_top (a0 : Int) (a1 : Int) (a2 : (Nat → Int)) (r : List A) : ev f_iPicture_numbers_X (lpc (cnOf f_iPicture_numbers_LV) (f_iPicture_numbers_L r)) f_iPicture_numbers_c (K0 TT f_iPicture_numbers_rv) (enter [.rc [.v (.int .i8 a0), .v (.int .i8 a1), .fa 144 .u8 a2]]) = (Option.bind (s_iImage_cells a0 a1 zF2) fun r1 => (some [.lst (.one (.i .i64)) r1])) := by kernel_rfl
noncomputable def l_iPicture_numbers (r : (List Int)) : List A := [.lst (.one (.i .i64)) r]
theorem s_iPicture_numbers_ok (a0 : Int) (a1 : Int) (a2 : (Nat → Int)) (v : (List Int)) (h : s_iPicture_numbers a0 a1 a2 = some v) : (Option.bind (s_iImage_cells a0 a1 zF2) fun r1 => (some [.lst (.one (.i .i64)) r1])) = some (l_iPicture_numbers v) := by
  have e : (Option.bind (s_iImage_cells a0 a1 zF2) fun r1 => (some [.lst (.one (.i .i64)) r1])) = Option.map l_iPicture_numbers (s_iPicture_numbers a0 a1 a2) := by
    unfold s_iPicture_numbers
    exact (bind_app fun _ => rfl)
  rw [e, h]; rfl
noncomputable def c_iPicture_numbers : List A → ACall
  | [.rc [.v (.int .i8 a0), .v (.int .i8 a1), .fa 144 .u8 a2]] => ⟨(List Int), s_iPicture_numbers a0 a1 a2, fun r => .one (.lst (.one (.i .i64)) r)⟩
  | _ => ACall.fail
theorem f_iPicture_numbers_sound : Sound Try.prog 97 c_iPicture_numbers := by
  refine sound_good f_iPicture_numbers_ctx f_iPicture_numbers_LV 1 Try.func97 (c := f_iPicture_numbers_c) (by kernel_rfl) (rv := f_iPicture_numbers_rv) (by kernel_rfl) (by kernel_rfl) (by kernel_rfl) (by kernel_rfl) fun rs => ?_
  unfold c_iPicture_numbers
  split
  · rename_i a0 a1 a2; intro v h; exact ⟨rfl, l_iPicture_numbers v, rfl, (f_iPicture_numbers_top a0 a1 a2 _).trans (s_iPicture_numbers_ok a0 a1 a2 v h)⟩
  · intro v h; cases h

/-! ### function 68: loop.example/g01322/impl.FillFrom$1 -/
noncomputable def f_iFillFrom_1_c : Code := match Try.f68.body with | some c => c | none => .skip
noncomputable def f_iFillFrom_1_X : Ctx := ⟨TT, phiOf [], noPsi⟩
def f_iFillFrom_1_LV : List (Nat × Keep) := []
def f_iFillFrom_1_rv : List ResultVar := [.tmp 3]
noncomputable def f_iFillFrom_1_L (r : List A) : Nat → AS → Option (List A) := L f_iFillFrom_1_X (cnOf f_iFillFrom_1_LV) f_iFillFrom_1_c (K0 TT f_iFillFrom_1_rv) r
theorem f_iFillFrom_1_ctx : CtxOK Try.prog f_iFillFrom_1_X := ctx_of tab mix trivial
noncomputable def s_iFillFrom_1 (a0 : Int) (a1 : Int) (a2 : Int) (a3 : (Nat → Int)) : Option Int := (cond (inB a0 144) (some (a3 (Int.toNat a0))) none)
theorem f_iFillFrom_1_top (a0 : Int) (a1 : Int) (a2 : Int) (a3 : (Nat → Int)) (r : List A) : ev f_iFillFrom_1_X (lpc (cnOf f_iFillFrom_1_LV) (f_iFillFrom_1_L r)) f_iFillFrom_1_c (K0 TT f_iFillFrom_1_rv) (enter [.v (.int .i64 a0), .ref (.rc [.v (.int .i8 a1), .v (.int .i8 a2), .fa 144 .u8 a3])]) = (cond (inB a0 144) (some [.v (.int .u8 (a3 (Int.toNat a0)))]) none) := by kernel_rfl
noncomputable def l_iFillFrom_1 (r : Int) : List A := [.v (.int .u8 r)]
theorem s_iFillFrom_1_ok (a0 : Int) (a1 : Int) (a2 : Int) (a3 : (Nat → Int)) (v : Int) (h : s_iFillFrom_1 a0 a1 a2 a3 = some v) : (cond (inB a0 144) (some [.v (.int .u8 (a3 (Int.toNat a0)))]) none) = some (l_iFillFrom_1 v) := by
  have e : (cond (inB a0 144) (some [.v (.int .u8 (a3 (Int.toNat a0)))]) none) = Option.map l_iFillFrom_1 (s_iFillFrom_1 a0 a1 a2 a3) := by
    unfold s_iFillFrom_1
    exact (cond_app (Option.map l_iFillFrom_1) rfl rfl)
  rw [e, h]; rfl
noncomputable def c_iFillFrom_1 : List A → ACall
  | [.v (.int .i64 a0), .ref (.rc [.v (.int .i8 a1), .v (.int .i8 a2), .fa 144 .u8 a3])] => ⟨Int, s_iFillFrom_1 a0 a1 a2 a3, fun r => .one (.v (.int .u8 r))⟩
  | _ => ACall.fail
theorem f_iFillFrom_1_sound : Sound Try.prog 68 c_iFillFrom_1 := by
  refine sound_good f_iFillFrom_1_ctx f_iFillFrom_1_LV 2 Try.func68 (c := f_iFillFrom_1_c) (by kernel_rfl) (rv := f_iFillFrom_1_rv) (by kernel_rfl) (by kernel_rfl) (by kernel_rfl) (by kernel_rfl) fun rs => ?_
  unfold c_iFillFrom_1
  split
  · rename_i a0 a1 a2 a3; intro v h; exact ⟨rfl, l_iFillFrom_1 v, rfl, (f_iFillFrom_1_top a0 a1 a2 a3 _).trans (s_iFillFrom_1_ok a0 a1 a2 a3 v h)⟩
  · intro v h; cases h

/-! ### function 67: loop.example/g01322/impl.filled -/
noncomputable def f_ifilled_a_c : Code := match Try.f67.body with | some c => c | none => .skip
noncomputable def f_ifilled_a_X : Ctx := ⟨TT, phiOf [(68, c_iFillFrom_1), (97, c_iPicture_numbers)], noPsi⟩
def f_ifilled_a_LV : List (Nat × Keep) := [(3, ([1, 2, 4, 6, 7, 12, 13, 14], [], []))]
def f_ifilled_a_rv : List ResultVar := [.cell 4 27, .tmp 5]
noncomputable def f_ifilled_a_L (r : List A) : Nat → AS → Option (List A) := L f_ifilled_a_X (cnOf f_ifilled_a_LV) f_ifilled_a_c (K0 TT f_ifilled_a_rv) r
theorem f_ifilled_a_ctx : CtxOK Try.prog f_ifilled_a_X := ctx_of tab mix ⟨⟨Try.call68, f_iFillFrom_1_sound⟩, ⟨Try.call97, f_iPicture_numbers_sound⟩, trivial⟩
noncomputable def f_ifilled_a_s3 (x0 : Int) (x1 : Int) (x2 : Int) (x3 : Int) (x4 : Int) (x5 : (Nat → Int)) (x6 : Int) (x7 : Int) (x8 : (Nat → Int)) (x9 : Int) (x10 : Int) (x11 : (Nat → Int)) (x12 : Int) (x13 : Int) (x14 : (Nat → Int)) (x15 : (List Int)) : AS := ⟨[(1, .a (.clo 68 [.ptr 0 [] (0)])), (2, .a (.ptr 1 [] (0))), (4, .a (.ptr 2 [] (0))), (6, .a (.ptr 3 [] (0))), (7, .a (.v (.int .i64 x0))), (12, .a (.sl 4)), (13, .a (.v (.int .i64 x1))), (14, .a (.v (.int .i64 x2)))], [(0, some ⟨false, .box (.rc [.v (.int .i8 x3), .v (.int .i8 x4), .fa 144 .u8 x5])⟩), (1, some ⟨true, .box (.rc [.v (.int .i8 x6), .v (.int .i8 x7), .fa 144 .u8 x8])⟩), (2, some ⟨true, .box (.rc [.v (.int .i8 x9), .v (.int .i8 x10), .fa 144 .u8 x11])⟩), (3, some ⟨true, .box (.rc [.v (.int .i8 x12), .v (.int .i8 x13), .fa 144 .u8 x14])⟩), (4, some ⟨true, .arr (.one (.i .i64)) x15⟩)], 5⟩
noncomputable def l_ifilled_a (r : (Int × Int × (Nat → Int) × Int)) : List A := [.rc [.v (.int .i8 r.1), .v (.int .i8 r.2.1), .fa 144 .u8 r.2.2.1], .v (.int .i64 r.2.2.2)]
theorem f_ifilled_a_step3 (x0 : Int) (x1 : Int) (x2 : Int) (x3 : Int) (x4 : Int) (x5 : (Nat → Int)) (x6 : Int) (x7 : Int) (x8 : (Nat → Int)) (x9 : Int) (x10 : Int) (x11 : (Nat → Int)) (x12 : Int) (x13 : Int) (x14 : (Nat → Int)) (x15 : (List Int)) (r : List A) (h : (cond (decide (x2 < x1)) (cond (inB x2 (List.length x15)) (cond (inB (List.getD x15 (Int.toNat x2) 0) 144) (cond ((x8 (Int.toNat (List.getD x15 (Int.toNat x2) 0))) != 0) (f_ifilled_a_L r 3 (f_ifilled_a_s3 x0 x1 (IntKind.wrap .i64 (x2 + 1)) x3 x4 x5 x6 x7 x8 x9 x10 x11 x12 x13 x14 x15)) (Option.bind (s_iFillFrom_1 (List.getD x15 (Int.toNat x2) 0) x3 x4 x5) fun r2 => (cond (inB (List.getD x15 (Int.toNat x2) 0) 144) (cond (inB (List.getD x15 (Int.toNat x2) 0) 144) (cond (((upd x14 (Int.toNat (List.getD x15 (Int.toNat x2) 0)) r2) (Int.toNat (List.getD x15 (Int.toNat x2) 0))) != 0) (f_ifilled_a_L r 3 (f_ifilled_a_s3 (IntKind.wrap .i64 (x0 + 1)) x1 (IntKind.wrap .i64 (x2 + 1)) x3 x4 x5 x6 x7 x8 x9 x10 x11 x12 x13 (upd x14 (Int.toNat (List.getD x15 (Int.toNat x2) 0)) r2) x15)) (f_ifilled_a_L r 3 (f_ifilled_a_s3 x0 x1 (IntKind.wrap .i64 (x2 + 1)) x3 x4 x5 x6 x7 x8 x9 x10 x11 x12 x13 (upd x14 (Int.toNat (List.getD x15 (Int.toNat x2) 0)) r2) x15))) none) none))) none) none) (some [.rc [.v (.int .i8 x12), .v (.int .i8 x13), .fa 144 .u8 x14], .v (.int .i64 x0)])) = some r) : f_ifilled_a_L r 3 (f_ifilled_a_s3 x0 x1 x2 x3 x4 x5 x6 x7 x8 x9 x10 x11 x12 x13 x14 x15) = some r :=
  step_of' h (by kernel_rfl)
noncomputable def f_ifilled_a_n3 (x0 : Int) (x1 : Int) (x2 : Int) (x3 : Int) (x4 : Int) (x5 : (Nat → Int)) (x6 : Int) (x7 : Int) (x8 : (Nat → Int)) (x9 : Int) (x10 : Int) (x11 : (Nat → Int)) (x12 : Int) (x13 : Int) (x14 : (Nat → Int)) (x15 : (List Int)) : Option ((Int × Int × Int × Int × Int × (Nat → Int) × Int × Int × (Nat → Int) × Int × Int × (Nat → Int) × Int × Int × (Nat → Int) × (List Int)) ⊕ (Int × Int × (Nat → Int) × Int)) := (cond (decide (x2 < x1)) (cond (inB x2 (List.length x15)) (cond (inB (List.getD x15 (Int.toNat x2) 0) 144) (cond ((x8 (Int.toNat (List.getD x15 (Int.toNat x2) 0))) != 0) (some (Sum.inl (x0, x1, (IntKind.wrap .i64 (x2 + 1)), x3, x4, x5, x6, x7, x8, x9, x10, x11, x12, x13, x14, x15))) (Option.bind (s_iFillFrom_1 (List.getD x15 (Int.toNat x2) 0) x3 x4 x5) fun r2 => (cond (inB (List.getD x15 (Int.toNat x2) 0) 144) (cond (inB (List.getD x15 (Int.toNat x2) 0) 144) (cond (((upd x14 (Int.toNat (List.getD x15 (Int.toNat x2) 0)) r2) (Int.toNat (List.getD x15 (Int.toNat x2) 0))) != 0) (some (Sum.inl ((IntKind.wrap .i64 (x0 + 1)), x1, (IntKind.wrap .i64 (x2 + 1)), x3, x4, x5, x6, x7, x8, x9, x10, x11, x12, x13, (upd x14 (Int.toNat (List.getD x15 (Int.toNat x2) 0)) r2), x15))) (some (Sum.inl (x0, x1, (IntKind.wrap .i64 (x2 + 1)), x3, x4, x5, x6, x7, x8, x9, x10, x11, x12, x13, (upd x14 (Int.toNat (List.getD x15 (Int.toNat x2) 0)) r2), x15)))) none) none))) none) none) (some (Sum.inr (x12, x13, x14, x0))))
noncomputable def f_ifilled_a_run3 (x : (Int × Int × Int × Int × Int × (Nat → Int) × Int × Int × (Nat → Int) × Int × Int × (Nat → Int) × Int × Int × (Nat → Int) × (List Int))) : Option (Int × Int × (Nat → Int) × Int) := iter (fun x => f_ifilled_a_n3 x.1 x.2.1 x.2.2.1 x.2.2.2.1 x.2.2.2.2.1 x.2.2.2.2.2.1 x.2.2.2.2.2.2.1 x.2.2.2.2.2.2.2.1 x.2.2.2.2.2.2.2.2.1 x.2.2.2.2.2.2.2.2.2.1 x.2.2.2.2.2.2.2.2.2.2.1 x.2.2.2.2.2.2.2.2.2.2.2.1 x.2.2.2.2.2.2.2.2.2.2.2.2.1 x.2.2.2.2.2.2.2.2.2.2.2.2.2.1 x.2.2.2.2.2.2.2.2.2.2.2.2.2.2.1 x.2.2.2.2.2.2.2.2.2.2.2.2.2.2.2) FU x
noncomputable def f_ifilled_a_G3 (r : List A) (x : (Int × Int × Int × Int × Int × (Nat → Int) × Int × Int × (Nat → Int) × Int × Int × (Nat → Int) × Int × Int × (Nat → Int) × (List Int))) : Prop := f_ifilled_a_L r 3 (f_ifilled_a_s3 x.1 x.2.1 x.2.2.1 x.2.2.2.1 x.2.2.2.2.1 x.2.2.2.2.2.1 x.2.2.2.2.2.2.1 x.2.2.2.2.2.2.2.1 x.2.2.2.2.2.2.2.2.1 x.2.2.2.2.2.2.2.2.2.1 x.2.2.2.2.2.2.2.2.2.2.1 x.2.2.2.2.2.2.2.2.2.2.2.1 x.2.2.2.2.2.2.2.2.2.2.2.2.1 x.2.2.2.2.2.2.2.2.2.2.2.2.2.1 x.2.2.2.2.2.2.2.2.2.2.2.2.2.2.1 x.2.2.2.2.2.2.2.2.2.2.2.2.2.2.2) = some r
noncomputable def f_ifilled_a_S3 (r : List A) : (Int × Int × (Nat → Int) × Int) → Prop := fun v => r = l_ifilled_a v
theorem f_ifilled_a_go3 (r : List A) : ∀ x, sem (f_ifilled_a_S3 r) (f_ifilled_a_run3 x) → f_ifilled_a_G3 r x :=
  fun x => iter_sound (step := fun x => f_ifilled_a_n3 x.1 x.2.1 x.2.2.1 x.2.2.2.1 x.2.2.2.2.1 x.2.2.2.2.2.1 x.2.2.2.2.2.2.1 x.2.2.2.2.2.2.2.1 x.2.2.2.2.2.2.2.2.1 x.2.2.2.2.2.2.2.2.2.1 x.2.2.2.2.2.2.2.2.2.2.1 x.2.2.2.2.2.2.2.2.2.2.2.1 x.2.2.2.2.2.2.2.2.2.2.2.2.1 x.2.2.2.2.2.2.2.2.2.2.2.2.2.1 x.2.2.2.2.2.2.2.2.2.2.2.2.2.2.1 x.2.2.2.2.2.2.2.2.2.2.2.2.2.2.2) (fun x h => by
    unfold f_ifilled_a_n3 at h
    exact f_ifilled_a_step3 x.1 x.2.1 x.2.2.1 x.2.2.2.1 x.2.2.2.2.1 x.2.2.2.2.2.1 x.2.2.2.2.2.2.1 x.2.2.2.2.2.2.2.1 x.2.2.2.2.2.2.2.2.1 x.2.2.2.2.2.2.2.2.2.1 x.2.2.2.2.2.2.2.2.2.2.1 x.2.2.2.2.2.2.2.2.2.2.2.1 x.2.2.2.2.2.2.2.2.2.2.2.2.1 x.2.2.2.2.2.2.2.2.2.2.2.2.2.1 x.2.2.2.2.2.2.2.2.2.2.2.2.2.2.1 x.2.2.2.2.2.2.2.2.2.2.2.2.2.2.2 r ((sem_cond h (fun h => (sem_cond h (fun h => (sem_cond h (fun h => (sem_cond h (fun h => sem_got h fun q => q) (fun h => (sem_bind h fun r2 h => (sem_cond h (fun h => (sem_cond h (fun h => (sem_cond h (fun h => sem_got h fun q => q) (fun h => sem_got h fun q => q))) (fun h => sem_none h))) (fun h => sem_none h)))))) (fun h => sem_none h))) (fun h => sem_none h))) (fun h => sem_got h fun q => some_eq q)))) FU x
noncomputable def s_ifilled_a (a0 : Int) (a1 : Int) (a2 : (Nat → Int)) (a3 : Int) (a4 : Int) (a5 : (Nat → Int)) : Option (Int × Int × (Nat → Int) × Int) := (Option.bind (s_iPicture_numbers a0 a1 a2) fun r1 => (f_ifilled_a_run3 (0, ((List.length r1 : Nat) : Int), 0, a3, a4, a5, a0, a1, a2, 0, 0, zF, a0, a1, a2, r1)))
theorem f_ifilled_a_top (a0 : Int) (a1 : Int) (a2 : (Nat → Int)) (a3 : Int) (a4 : Int) (a5 : (Nat → Int)) (r : List A) : ev f_ifilled_a_X (lpc (cnOf f_ifilled_a_LV) (f_ifilled_a_L r)) f_ifilled_a_c (K0 TT f_ifilled_a_rv) (enter [.rc [.v (.int .i8 a0), .v (.int .i8 a1), .fa 144 .u8 a2], .clo 68 [.ref (.rc [.v (.int .i8 a3), .v (.int .i8 a4), .fa 144 .u8 a5])]]) = (Option.bind (s_iPicture_numbers a0 a1 a2) fun r1 => (f_ifilled_a_L r 3 (f_ifilled_a_s3 0 ((List.length r1 : Nat) : Int) 0 a3 a4 a5 a0 a1 a2 0 0 zF a0 a1 a2 r1))) := by kernel_rfl
theorem s_ifilled_a_ok (a0 : Int) (a1 : Int) (a2 : (Nat → Int)) (a3 : Int) (a4 : Int) (a5 : (Nat → Int)) (v : (Int × Int × (Nat → Int) × Int)) (h : s_ifilled_a a0 a1 a2 a3 a4 a5 = some v) : (Option.bind (s_iPicture_numbers a0 a1 a2) fun r1 => (f_ifilled_a_L (l_ifilled_a v) 3 (f_ifilled_a_s3 0 ((List.length r1 : Nat) : Int) 0 a3 a4 a5 a0 a1 a2 0 0 zF a0 a1 a2 r1))) = some (l_ifilled_a v) := by
  unfold s_ifilled_a at h
  have go : ∀ r, sem (fun v => r = l_ifilled_a v) ((Option.bind (s_iPicture_numbers a0 a1 a2) fun r1 => (f_ifilled_a_run3 (0, ((List.length r1 : Nat) : Int), 0, a3, a4, a5, a0, a1, a2, 0, 0, zF, a0, a1, a2, r1)))) → (Option.bind (s_iPicture_numbers a0 a1 a2) fun r1 => (f_ifilled_a_L r 3 (f_ifilled_a_s3 0 ((List.length r1 : Nat) : Int) 0 a3 a4 a5 a0 a1 a2 0 0 zF a0 a1 a2 r1))) = some r := fun r h => (sem_bind h fun r1 h => f_ifilled_a_go3 r _ h)
  exact go (l_ifilled_a v) ⟨v, h, rfl⟩
noncomputable def c_ifilled_a : List A → ACall
  | [.rc [.v (.int .i8 a0), .v (.int .i8 a1), .fa 144 .u8 a2], .clo 68 [.ref (.rc [.v (.int .i8 a3), .v (.int .i8 a4), .fa 144 .u8 a5])]] => ⟨(Int × Int × (Nat → Int) × Int), s_ifilled_a a0 a1 a2 a3 a4 a5, fun r => .tup [.rc [.v (.int .i8 r.1), .v (.int .i8 r.2.1), .fa 144 .u8 r.2.2.1], .v (.int .i64 r.2.2.2)]⟩
  | _ => ACall.fail
theorem f_ifilled_a_sound : Sound Try.prog 67 c_ifilled_a := by
  refine sound_good f_ifilled_a_ctx f_ifilled_a_LV 2 Try.func67 (c := f_ifilled_a_c) (by kernel_rfl) (rv := f_ifilled_a_rv) (by kernel_rfl) (by kernel_rfl) (by kernel_rfl) (by kernel_rfl) fun rs => ?_
  unfold c_ifilled_a
  split
  · rename_i a0 a1 a2 a3 a4 a5; intro v h; exact ⟨rfl, l_ifilled_a v, rfl, (f_ifilled_a_top a0 a1 a2 a3 a4 a5 _).trans (s_ifilled_a_ok a0 a1 a2 a3 a4 a5 v h)⟩
  · intro v h; cases h
def m_ifilled_a : List A → Bool
  | [_, .clo 68 _] => true
  | _ => false

/-! ### function 22: loop.example/g01322/impl.FillFrom -/
noncomputable def f_iFillFrom_c : Code := match Try.f22.body with | some c => c | none => .skip
noncomputable def f_iFillFrom_X : Ctx := ⟨TT, phiOf [(67, c_ifilled_a), (66, c_icodeAlike)], noPsi⟩
def f_iFillFrom_LV : List (Nat × Keep) := []
def f_iFillFrom_rv : List ResultVar := [.cell 4 27, .tmp 5, .tmp 6]
noncomputable def f_iFillFrom_L (r : List A) : Nat → AS → Option (List A) := L f_iFillFrom_X (cnOf f_iFillFrom_LV) f_iFillFrom_c (K0 TT f_iFillFrom_rv) r
theorem f_iFillFrom_ctx : CtxOK Try.prog f_iFillFrom_X := ctx_of tab mix ⟨⟨Try.call67, f_ifilled_a_sound⟩, ⟨Try.call66, f_icodeAlike_sound⟩, trivial⟩
noncomputable def s_iFillFrom (a0 : Int) (a1 : Int) (a2 : (Nat → Int)) (a3 : Int) (a4 : Int) (a5 : (Nat → Int)) : Option (Int × Int × (Nat → Int) × Int × Int) := (Option.bind (s_icodeAlike [(a0, a1, a2), (a3, a4, a5)]) fun r1 => (cond (r1 != 0) (some (0, 0, zF, 0, r1)) (Option.bind (s_ifilled_a a0 a1 a2 a3 a4 a5) fun r2 => (some ((r2.1), (r2.2.1), (r2.2.2.1), (r2.2.2.2), 0)))))
theorem f_iFillFrom_top (a0 : Int) (a1 : Int) (a2 : (Nat → Int)) (a3 : Int) (a4 : Int) (a5 : (Nat → Int)) (r : List A) : ev f_iFillFrom_X (lpc (cnOf f_iFillFrom_LV) (f_iFillFrom_L r)) f_iFillFrom_c (K0 TT f_iFillFrom_rv) (enter [.rc [.v (.int .i8 a0), .v (.int .i8 a1), .fa 144 .u8 a2], .rc [.v (.int .i8 a3), .v (.int .i8 a4), .fa 144 .u8 a5]]) = (Option.bind (s_icodeAlike [(a0, a1, a2), (a3, a4, a5)]) fun r1 => (cond (r1 != 0) (some [.rc [.v (.int .i8 0), .v (.int .i8 0), .fa 144 .u8 zF], .v (.int .i64 0), .v (.int .i64 r1)]) (Option.bind (s_ifilled_a a0 a1 a2 a3 a4 a5) fun r2 => (some [.rc [.v (.int .i8 r2.1), .v (.int .i8 r2.2.1), .fa 144 .u8 r2.2.2.1], .v (.int .i64 r2.2.2.2), .v (.int .i64 0)])))) := by kernel_rfl
noncomputable def l_iFillFrom (r : (Int × Int × (Nat → Int) × Int × Int)) : List A := [.rc [.v (.int .i8 r.1), .v (.int .i8 r.2.1), .fa 144 .u8 r.2.2.1], .v (.int .i64 r.2.2.2.1), .v (.int .i64 r.2.2.2.2)]
theorem s_iFillFrom_ok (a0 : Int) (a1 : Int) (a2 : (Nat → Int)) (a3 : Int) (a4 : Int) (a5 : (Nat → Int)) (v : (Int × Int × (Nat → Int) × Int × Int)) (h : s_iFillFrom a0 a1 a2 a3 a4 a5 = some v) : (Option.bind (s_icodeAlike [(a0, a1, a2), (a3, a4, a5)]) fun r1 => (cond (r1 != 0) (some [.rc [.v (.int .i8 0), .v (.int .i8 0), .fa 144 .u8 zF], .v (.int .i64 0), .v (.int .i64 r1)]) (Option.bind (s_ifilled_a a0 a1 a2 a3 a4 a5) fun r2 => (some [.rc [.v (.int .i8 r2.1), .v (.int .i8 r2.2.1), .fa 144 .u8 r2.2.2.1], .v (.int .i64 r2.2.2.2), .v (.int .i64 0)])))) = some (l_iFillFrom v) := by
  have e : (Option.bind (s_icodeAlike [(a0, a1, a2), (a3, a4, a5)]) fun r1 => (cond (r1 != 0) (some [.rc [.v (.int .i8 0), .v (.int .i8 0), .fa 144 .u8 zF], .v (.int .i64 0), .v (.int .i64 r1)]) (Option.bind (s_ifilled_a a0 a1 a2 a3 a4 a5) fun r2 => (some [.rc [.v (.int .i8 r2.1), .v (.int .i8 r2.2.1), .fa 144 .u8 r2.2.2.1], .v (.int .i64 r2.2.2.2), .v (.int .i64 0)])))) = Option.map l_iFillFrom (s_iFillFrom a0 a1 a2 a3 a4 a5) := by
    unfold s_iFillFrom
    exact (bind_app fun _ => (cond_app (Option.map l_iFillFrom) rfl (bind_app fun _ => rfl)))
  rw [e, h]; rfl
noncomputable def c_iFillFrom : List A → ACall
  | [.rc [.v (.int .i8 a0), .v (.int .i8 a1), .fa 144 .u8 a2], .rc [.v (.int .i8 a3), .v (.int .i8 a4), .fa 144 .u8 a5]] => ⟨(Int × Int × (Nat → Int) × Int × Int), s_iFillFrom a0 a1 a2 a3 a4 a5, fun r => .tup [.rc [.v (.int .i8 r.1), .v (.int .i8 r.2.1), .fa 144 .u8 r.2.2.1], .v (.int .i64 r.2.2.2.1), .v (.int .i64 r.2.2.2.2)]⟩
  | _ => ACall.fail
theorem f_iFillFrom_sound : Sound Try.prog 22 c_iFillFrom := by
  refine sound_good f_iFillFrom_ctx f_iFillFrom_LV 2 Try.func22 (c := f_iFillFrom_c) (by kernel_rfl) (rv := f_iFillFrom_rv) (by kernel_rfl) (by kernel_rfl) (by kernel_rfl) (by kernel_rfl) fun rs => ?_
  unfold c_iFillFrom
  split
  · rename_i a0 a1 a2 a3 a4 a5; intro v h; exact ⟨rfl, l_iFillFrom v, rfl, (f_iFillFrom_top a0 a1 a2 a3 a4 a5 _).trans (s_iFillFrom_ok a0 a1 a2 a3 a4 a5 v h)⟩
  · intro v h; cases h

/-! ### function 4: loop.example/g01322/laws.FnExactFillFrom -/
noncomputable def f_wFnExactFillFrom_c : Code := match Try.f4.body with | some c => c | none => .skip
noncomputable def f_wFnExactFillFrom_X : Ctx := ⟨TT, phiOf [(16, c_wtoPicture), (19, c_weqPicture), (21, c_sFillFrom), (22, c_iFillFrom)], noPsi⟩
def f_wFnExactFillFrom_LV : List (Nat × Keep) := []
def f_wFnExactFillFrom_rv : List ResultVar := [.tmp 4]
noncomputable def f_wFnExactFillFrom_L (r : List A) : Nat → AS → Option (List A) := L f_wFnExactFillFrom_X (cnOf f_wFnExactFillFrom_LV) f_wFnExactFillFrom_c (K0 TT f_wFnExactFillFrom_rv) r
theorem f_wFnExactFillFrom_ctx : CtxOK Try.prog f_wFnExactFillFrom_X := ctx_of tab mix ⟨⟨Try.call16, f_wtoPicture_sound⟩, ⟨Try.call19, f_weqPicture_sound⟩, ⟨Try.call21, f_sFillFrom_sound⟩, ⟨Try.call22, f_iFillFrom_sound⟩, trivial⟩
noncomputable def s_wFnExactFillFrom (a0 : Int) (a1 : Int) (a2 : (Nat → Int)) (a3 : Int) (a4 : Int) (a5 : (Nat → Int)) : Option Bool := (Option.bind (s_sFillFrom (s_wtoPicture a0 a1 a2).1 (s_wtoPicture a0 a1 a2).2.1 (s_wtoPicture a0 a1 a2).2.2 (s_wtoPicture a3 a4 a5).1 (s_wtoPicture a3 a4 a5).2.1 (s_wtoPicture a3 a4 a5).2.2) fun r1 => (Option.bind (s_iFillFrom (s_wtoPicture a0 a1 a2).1 (s_wtoPicture a0 a1 a2).2.1 (s_wtoPicture a0 a1 a2).2.2 (s_wtoPicture a3 a4 a5).1 (s_wtoPicture a3 a4 a5).2.1 (s_wtoPicture a3 a4 a5).2.2) fun r2 => (Option.bind (s_weqPicture (r2.1) (r2.2.1) (r2.2.2.1) (r1.1) (r1.2.1) (r1.2.2.1)) fun r3 => (cond (!r3) (some false) (cond (r2.2.2.2.1 != r1.2.2.2.1) (some false) (cond (r2.2.2.2.2 != r1.2.2.2.2) (some false) (some true)))))))
theorem f_wFnExactFillFrom_top (a0 : Int) (a1 : Int) (a2 : (Nat → Int)) (a3 : Int) (a4 : Int) (a5 : (Nat → Int)) (r : List A) : ev f_wFnExactFillFrom_X (lpc (cnOf f_wFnExactFillFrom_LV) (f_wFnExactFillFrom_L r)) f_wFnExactFillFrom_c (K0 TT f_wFnExactFillFrom_rv) (enter [.rc [.v (.int .i8 a0), .v (.int .i8 a1), .fa 144 .u8 a2], .rc [.v (.int .i8 a3), .v (.int .i8 a4), .fa 144 .u8 a5]]) = (Option.bind (s_sFillFrom (s_wtoPicture a0 a1 a2).1 (s_wtoPicture a0 a1 a2).2.1 (s_wtoPicture a0 a1 a2).2.2 (s_wtoPicture a3 a4 a5).1 (s_wtoPicture a3 a4 a5).2.1 (s_wtoPicture a3 a4 a5).2.2) fun r1 => (Option.bind (s_iFillFrom (s_wtoPicture a0 a1 a2).1 (s_wtoPicture a0 a1 a2).2.1 (s_wtoPicture a0 a1 a2).2.2 (s_wtoPicture a3 a4 a5).1 (s_wtoPicture a3 a4 a5).2.1 (s_wtoPicture a3 a4 a5).2.2) fun r2 => (Option.bind (s_weqPicture (r2.1) (r2.2.1) (r2.2.2.1) (r1.1) (r1.2.1) (r1.2.2.1)) fun r3 => (cond (!r3) (some [.v (.bool false)]) (cond (r2.2.2.2.1 != r1.2.2.2.1) (some [.v (.bool false)]) (cond (r2.2.2.2.2 != r1.2.2.2.2) (some [.v (.bool false)]) (some [.v (.bool true)]))))))) := by kernel_rfl
noncomputable def l_wFnExactFillFrom (r : Bool) : List A := [.v (.bool r)]
theorem s_wFnExactFillFrom_ok (a0 : Int) (a1 : Int) (a2 : (Nat → Int)) (a3 : Int) (a4 : Int) (a5 : (Nat → Int)) (v : Bool) (h : s_wFnExactFillFrom a0 a1 a2 a3 a4 a5 = some v) : (Option.bind (s_sFillFrom (s_wtoPicture a0 a1 a2).1 (s_wtoPicture a0 a1 a2).2.1 (s_wtoPicture a0 a1 a2).2.2 (s_wtoPicture a3 a4 a5).1 (s_wtoPicture a3 a4 a5).2.1 (s_wtoPicture a3 a4 a5).2.2) fun r1 => (Option.bind (s_iFillFrom (s_wtoPicture a0 a1 a2).1 (s_wtoPicture a0 a1 a2).2.1 (s_wtoPicture a0 a1 a2).2.2 (s_wtoPicture a3 a4 a5).1 (s_wtoPicture a3 a4 a5).2.1 (s_wtoPicture a3 a4 a5).2.2) fun r2 => (Option.bind (s_weqPicture (r2.1) (r2.2.1) (r2.2.2.1) (r1.1) (r1.2.1) (r1.2.2.1)) fun r3 => (cond (!r3) (some [.v (.bool false)]) (cond (r2.2.2.2.1 != r1.2.2.2.1) (some [.v (.bool false)]) (cond (r2.2.2.2.2 != r1.2.2.2.2) (some [.v (.bool false)]) (some [.v (.bool true)]))))))) = some (l_wFnExactFillFrom v) := by
  have e : (Option.bind (s_sFillFrom (s_wtoPicture a0 a1 a2).1 (s_wtoPicture a0 a1 a2).2.1 (s_wtoPicture a0 a1 a2).2.2 (s_wtoPicture a3 a4 a5).1 (s_wtoPicture a3 a4 a5).2.1 (s_wtoPicture a3 a4 a5).2.2) fun r1 => (Option.bind (s_iFillFrom (s_wtoPicture a0 a1 a2).1 (s_wtoPicture a0 a1 a2).2.1 (s_wtoPicture a0 a1 a2).2.2 (s_wtoPicture a3 a4 a5).1 (s_wtoPicture a3 a4 a5).2.1 (s_wtoPicture a3 a4 a5).2.2) fun r2 => (Option.bind (s_weqPicture (r2.1) (r2.2.1) (r2.2.2.1) (r1.1) (r1.2.1) (r1.2.2.1)) fun r3 => (cond (!r3) (some [.v (.bool false)]) (cond (r2.2.2.2.1 != r1.2.2.2.1) (some [.v (.bool false)]) (cond (r2.2.2.2.2 != r1.2.2.2.2) (some [.v (.bool false)]) (some [.v (.bool true)]))))))) = Option.map l_wFnExactFillFrom (s_wFnExactFillFrom a0 a1 a2 a3 a4 a5) := by
    unfold s_wFnExactFillFrom
    exact (bind_app fun _ => (bind_app fun _ => (bind_app fun _ => (cond_app (Option.map l_wFnExactFillFrom) rfl (cond_app (Option.map l_wFnExactFillFrom) rfl (cond_app (Option.map l_wFnExactFillFrom) rfl rfl))))))
  rw [e, h]; rfl
noncomputable def c_wFnExactFillFrom : List A → ACall
  | [.rc [.v (.int .i8 a0), .v (.int .i8 a1), .fa 144 .u8 a2], .rc [.v (.int .i8 a3), .v (.int .i8 a4), .fa 144 .u8 a5]] => ⟨Bool, s_wFnExactFillFrom a0 a1 a2 a3 a4 a5, fun r => .one (.v (.bool r))⟩
  | _ => ACall.fail
theorem f_wFnExactFillFrom_sound : Sound Try.prog 4 c_wFnExactFillFrom := by
  refine sound_good f_wFnExactFillFrom_ctx f_wFnExactFillFrom_LV 2 Try.func4 (c := f_wFnExactFillFrom_c) (by kernel_rfl) (rv := f_wFnExactFillFrom_rv) (by kernel_rfl) (by kernel_rfl) (by kernel_rfl) (by kernel_rfl) fun rs => ?_
  unfold c_wFnExactFillFrom
  split
  · rename_i a0 a1 a2 a3 a4 a5; intro v h; exact ⟨rfl, l_wFnExactFillFrom v, rfl, (f_wFnExactFillFrom_top a0 a1 a2 a3 a4 a5 _).trans (s_wFnExactFillFrom_ok a0 a1 a2 a3 a4 a5 v h)⟩
  · intro v h; cases h

/-! ### function 69: loop.example/g01322/spec.l06Kind -/
noncomputable def f_sl06Kind_c : Code := match Try.f69.body with | some c => c | none => .skip
noncomputable def f_sl06Kind_X : Ctx := ⟨TT, phiOf [(86, c_sl00In)], noPsi⟩
def f_sl06Kind_LV : List (Nat × Keep) := []
def f_sl06Kind_rv : List ResultVar := [.tmp 2]
noncomputable def f_sl06Kind_L (r : List A) : Nat → AS → Option (List A) := L f_sl06Kind_X (cnOf f_sl06Kind_LV) f_sl06Kind_c (K0 TT f_sl06Kind_rv) r
theorem f_sl06Kind_ctx : CtxOK Try.prog f_sl06Kind_X := ctx_of tab mix ⟨⟨Try.call86, f_sl00In_sound⟩, trivial⟩
noncomputable def s_sl06Kind (a0 : Int) : Bool := (s_sl00In a0 0 2)
theorem f_sl06Kind_top (a0 : Int) (r : List A) : ev f_sl06Kind_X (lpc (cnOf f_sl06Kind_LV) (f_sl06Kind_L r)) f_sl06Kind_c (K0 TT f_sl06Kind_rv) (enter [.v (.int .i64 a0)]) = (some [.v (.bool (s_sl00In a0 0 2))]) := by kernel_rfl
noncomputable def l_sl06Kind (r : Bool) : List A := [.v (.bool r)]
theorem s_sl06Kind_ok (a0 : Int) : (some [.v (.bool (s_sl00In a0 0 2))]) = some (l_sl06Kind (s_sl06Kind a0)) := by
  unfold s_sl06Kind
  exact rfl
noncomputable def c_sl06Kind : List A → ACall
  | [.v (.int .i64 a0)] => ⟨Bool, some (s_sl06Kind a0), fun r => .one (.v (.bool r))⟩
  | _ => ACall.fail
theorem f_sl06Kind_sound : Sound Try.prog 69 c_sl06Kind := by
  refine sound_good f_sl06Kind_ctx f_sl06Kind_LV 1 Try.func69 (c := f_sl06Kind_c) (by kernel_rfl) (rv := f_sl06Kind_rv) (by kernel_rfl) (by kernel_rfl) (by kernel_rfl) (by kernel_rfl) fun rs => ?_
  unfold c_sl06Kind
  split
  · rename_i a0; intro v h; cases h; exact ⟨rfl, l_sl06Kind (s_sl06Kind a0), rfl, (f_sl06Kind_top a0 _).trans (s_sl06Kind_ok a0)⟩
  · intro v h; cases h

/-! ### function 70: loop.example/g01322/spec.l06Lost -/
noncomputable def f_sl06Lost_c : Code := match Try.f70.body with | some c => c | none => .skip
noncomputable def f_sl06Lost_X : Ctx := ⟨TT, phiOf [(103, c_sl01Is)], noPsi⟩
def f_sl06Lost_LV : List (Nat × Keep) := [(3, ([0, 3, 4], [], []))]
def f_sl06Lost_rv : List ResultVar := [.tmp 2]
noncomputable def f_sl06Lost_L (r : List A) : Nat → AS → Option (List A) := L f_sl06Lost_X (cnOf f_sl06Lost_LV) f_sl06Lost_c (K0 TT f_sl06Lost_rv) r
theorem f_sl06Lost_ctx : CtxOK Try.prog f_sl06Lost_X := ctx_of tab mix ⟨⟨Try.call103, f_sl01Is_sound⟩, trivial⟩
noncomputable def f_sl06Lost_s3 (x0 : Int) (x1 : Int) (x2 : Int) (x3 : (Nat → Int)) (x4 : (List Int)) : AS := ⟨[(0, .a (.ptr 0 [] (0))), (3, .a (.sl 1)), (4, .a (.v (.int .i64 x0)))], [(0, some ⟨false, .box (.rc [.v (.int .i8 x1), .v (.int .i8 x2), .fa 144 .u8 x3])⟩), (1, some ⟨true, .arr (.one (.i .i64)) x4⟩)], 2⟩
noncomputable def l_sl06Lost (r : (List Int)) : List A := [.lst (.one (.i .i64)) r]
theorem f_sl06Lost_step3 (x0 : Int) (x1 : Int) (x2 : Int) (x3 : (Nat → Int)) (x4 : (List Int)) (r : List A) (h : (cond (decide (x0 < 144)) (cond (s_sl01Is x1 x2 x3 x0) (cond (inB x0 144) (cond ((x3 (Int.toNat x0)) == 0) (cond (fits ((List.length (x4 : List Int) + List.length ([x0] : List Int)) * 8)) (f_sl06Lost_L r 3 (f_sl06Lost_s3 (IntKind.wrap .i64 (x0 + 1)) x1 x2 x3 (x4 ++ [x0]))) none) (f_sl06Lost_L r 3 (f_sl06Lost_s3 (IntKind.wrap .i64 (x0 + 1)) x1 x2 x3 x4))) none) (f_sl06Lost_L r 3 (f_sl06Lost_s3 (IntKind.wrap .i64 (x0 + 1)) x1 x2 x3 x4))) (some [.lst (.one (.i .i64)) x4])) = some r) : f_sl06Lost_L r 3 (f_sl06Lost_s3 x0 x1 x2 x3 x4) = some r :=
  step_of' h (by kernel_rfl)
noncomputable def f_sl06Lost_n3 (x0 : Int) (x1 : Int) (x2 : Int) (x3 : (Nat → Int)) (x4 : (List Int)) : Option ((Int × Int × Int × (Nat → Int) × (List Int)) ⊕ (List Int)) := (cond (decide (x0 < 144)) (cond (s_sl01Is x1 x2 x3 x0) (cond (inB x0 144) (cond ((x3 (Int.toNat x0)) == 0) (cond (fits ((List.length (x4 : List Int) + List.length ([x0] : List Int)) * 8)) (some (Sum.inl ((IntKind.wrap .i64 (x0 + 1)), x1, x2, x3, (x4 ++ [x0])))) none) (some (Sum.inl ((IntKind.wrap .i64 (x0 + 1)), x1, x2, x3, x4)))) none) (some (Sum.inl ((IntKind.wrap .i64 (x0 + 1)), x1, x2, x3, x4)))) (some (Sum.inr x4)))
noncomputable def f_sl06Lost_run3 (x : (Int × Int × Int × (Nat → Int) × (List Int))) : Option (List Int) := iter (fun x => f_sl06Lost_n3 x.1 x.2.1 x.2.2.1 x.2.2.2.1 x.2.2.2.2) FU x
noncomputable def f_sl06Lost_G3 (r : List A) (x : (Int × Int × Int × (Nat → Int) × (List Int))) : Prop := f_sl06Lost_L r 3 (f_sl06Lost_s3 x.1 x.2.1 x.2.2.1 x.2.2.2.1 x.2.2.2.2) = some r
noncomputable def f_sl06Lost_S3 (r : List A) : (List Int) → Prop := fun v => r = l_sl06Lost v
theorem f_sl06Lost_go3 (r : List A) : ∀ x, sem (f_sl06Lost_S3 r) (f_sl06Lost_run3 x) → f_sl06Lost_G3 r x :=
  fun x => iter_sound (step := fun x => f_sl06Lost_n3 x.1 x.2.1 x.2.2.1 x.2.2.2.1 x.2.2.2.2) (fun x h => by
    unfold f_sl06Lost_n3 at h
    exact f_sl06Lost_step3 x.1 x.2.1 x.2.2.1 x.2.2.2.1 x.2.2.2.2 r ((sem_cond h (fun h => (sem_cond h (fun h => (sem_cond h (fun h => (sem_cond h (fun h => (sem_cond h (fun h => sem_got h fun q => q) (fun h => sem_none h))) (fun h => sem_got h fun q => q))) (fun h => sem_none h))) (fun h => sem_got h fun q => q))) (fun h => sem_got h fun q => some_eq q)))) FU x
noncomputable def s_sl06Lost (a0 : Int) (a1 : Int) (a2 : (Nat → Int)) : Option (List Int) := (f_sl06Lost_run3 (0, a0, a1, a2, []))
theorem f_sl06Lost_top (a0 : Int) (a1 : Int) (a2 : (Nat → Int)) (r : List A) : ev f_sl06Lost_X (lpc (cnOf f_sl06Lost_LV) (f_sl06Lost_L r)) f_sl06Lost_c (K0 TT f_sl06Lost_rv) (enter [.ref (.rc [.v (.int .i8 a0), .v (.int .i8 a1), .fa 144 .u8 a2])]) = (f_sl06Lost_L r 3 (f_sl06Lost_s3 0 a0 a1 a2 [])) := by kernel_rfl
theorem s_sl06Lost_ok (a0 : Int) (a1 : Int) (a2 : (Nat → Int)) (v : (List Int)) (h : s_sl06Lost a0 a1 a2 = some v) : (f_sl06Lost_L (l_sl06Lost v) 3 (f_sl06Lost_s3 0 a0 a1 a2 [])) = some (l_sl06Lost v) := by
  unfold s_sl06Lost at h
  have go : ∀ r, sem (fun v => r = l_sl06Lost v) ((f_sl06Lost_run3 (0, a0, a1, a2, []))) → (f_sl06Lost_L r 3 (f_sl06Lost_s3 0 a0 a1 a2 [])) = some r := fun r h => f_sl06Lost_go3 r _ h
  exact go (l_sl06Lost v) ⟨v, h, rfl⟩
noncomputable def c_sl06Lost : List A → ACall
  | [.ref (.rc [.v (.int .i8 a0), .v (.int .i8 a1), .fa 144 .u8 a2])] => ⟨(List Int), s_sl06Lost a0 a1 a2, fun r => .one (.lst (.one (.i .i64)) r)⟩
  | _ => ACall.fail
theorem f_sl06Lost_sound : Sound Try.prog 70 c_sl06Lost := by
  refine sound_good f_sl06Lost_ctx f_sl06Lost_LV 1 Try.func70 (c := f_sl06Lost_c) (by kernel_rfl) (rv := f_sl06Lost_rv) (by kernel_rfl) (by kernel_rfl) (by kernel_rfl) (by kernel_rfl) fun rs => ?_
  unfold c_sl06Lost
  split
  · rename_i a0 a1 a2; intro v h; exact ⟨rfl, l_sl06Lost v, rfl, (f_sl06Lost_top a0 a1 a2 _).trans (s_sl06Lost_ok a0 a1 a2 v h)⟩
  · intro v h; cases h

/-! ### function 71: loop.example/g01322/spec.l06Partner -/
noncomputable def f_sl06Partner_c : Code := match Try.f71.body with | some c => c | none => .skip
noncomputable def f_sl06Partner_X : Ctx := ⟨TT, phiOf [], noPsi⟩
def f_sl06Partner_LV : List (Nat × Keep) := []
def f_sl06Partner_rv : List ResultVar := [.tmp 6]
noncomputable def f_sl06Partner_L (r : List A) : Nat → AS → Option (List A) := L f_sl06Partner_X (cnOf f_sl06Partner_LV) f_sl06Partner_c (K0 TT f_sl06Partner_rv) r
theorem f_sl06Partner_ctx : CtxOK Try.prog f_sl06Partner_X := ctx_of tab mix trivial
noncomputable def s_sl06Partner (a0 : Int) (a1 : Int) (a2 : (Nat → Int)) (a3 : Int) (a4 : Int) : Int := (cond (a3 != 1) (cond (a3 != 0) (IntKind.wrap .i64 ((IntKind.wrap .i64 ((IntKind.wrap .i64 ((IntKind.wrap .i64 a0) - 1)) - (Int.tmod a4 12))) + (IntKind.wrap .i64 (12 * (IntKind.wrap .i64 ((IntKind.wrap .i64 ((IntKind.wrap .i64 a1) - 1)) - (IntKind.wrap .i64 (Int.tdiv a4 12)))))))) (IntKind.wrap .i64 ((IntKind.wrap .i64 ((IntKind.wrap .i64 ((IntKind.wrap .i64 a0) - 1)) - (Int.tmod a4 12))) + (IntKind.wrap .i64 (12 * (IntKind.wrap .i64 (Int.tdiv a4 12))))))) (cond (a3 != 0) (IntKind.wrap .i64 ((Int.tmod a4 12) + (IntKind.wrap .i64 (12 * (IntKind.wrap .i64 ((IntKind.wrap .i64 ((IntKind.wrap .i64 a1) - 1)) - (IntKind.wrap .i64 (Int.tdiv a4 12)))))))) (IntKind.wrap .i64 ((Int.tmod a4 12) + (IntKind.wrap .i64 (12 * (IntKind.wrap .i64 (Int.tdiv a4 12))))))))
theorem f_sl06Partner_top (a0 : Int) (a1 : Int) (a2 : (Nat → Int)) (a3 : Int) (a4 : Int) (r : List A) : ev f_sl06Partner_X (lpc (cnOf f_sl06Partner_LV) (f_sl06Partner_L r)) f_sl06Partner_c (K0 TT f_sl06Partner_rv) (enter [.ref (.rc [.v (.int .i8 a0), .v (.int .i8 a1), .fa 144 .u8 a2]), .v (.int .i64 a3), .v (.int .i64 a4)]) = (cond (a3 != 1) (cond (a3 != 0) (some [.v (.int .i64 (IntKind.wrap .i64 ((IntKind.wrap .i64 ((IntKind.wrap .i64 ((IntKind.wrap .i64 a0) - 1)) - (Int.tmod a4 12))) + (IntKind.wrap .i64 (12 * (IntKind.wrap .i64 ((IntKind.wrap .i64 ((IntKind.wrap .i64 a1) - 1)) - (IntKind.wrap .i64 (Int.tdiv a4 12)))))))))]) (some [.v (.int .i64 (IntKind.wrap .i64 ((IntKind.wrap .i64 ((IntKind.wrap .i64 ((IntKind.wrap .i64 a0) - 1)) - (Int.tmod a4 12))) + (IntKind.wrap .i64 (12 * (IntKind.wrap .i64 (Int.tdiv a4 12)))))))])) (cond (a3 != 0) (some [.v (.int .i64 (IntKind.wrap .i64 ((Int.tmod a4 12) + (IntKind.wrap .i64 (12 * (IntKind.wrap .i64 ((IntKind.wrap .i64 ((IntKind.wrap .i64 a1) - 1)) - (IntKind.wrap .i64 (Int.tdiv a4 12)))))))))]) (some [.v (.int .i64 (IntKind.wrap .i64 ((Int.tmod a4 12) + (IntKind.wrap .i64 (12 * (IntKind.wrap .i64 (Int.tdiv a4 12)))))))]))) := by kernel_rfl
noncomputable def l_sl06Partner (r : Int) : List A := [.v (.int .i64 r)]
theorem s_sl06Partner_ok (a0 : Int) (a1 : Int) (a2 : (Nat → Int)) (a3 : Int) (a4 : Int) : (cond (a3 != 1) (cond (a3 != 0) (some [.v (.int .i64 (IntKind.wrap .i64 ((IntKind.wrap .i64 ((IntKind.wrap .i64 ((IntKind.wrap .i64 a0) - 1)) - (Int.tmod a4 12))) + (IntKind.wrap .i64 (12 * (IntKind.wrap .i64 ((IntKind.wrap .i64 ((IntKind.wrap .i64 a1) - 1)) - (IntKind.wrap .i64 (Int.tdiv a4 12)))))))))]) (some [.v (.int .i64 (IntKind.wrap .i64 ((IntKind.wrap .i64 ((IntKind.wrap .i64 ((IntKind.wrap .i64 a0) - 1)) - (Int.tmod a4 12))) + (IntKind.wrap .i64 (12 * (IntKind.wrap .i64 (Int.tdiv a4 12)))))))])) (cond (a3 != 0) (some [.v (.int .i64 (IntKind.wrap .i64 ((Int.tmod a4 12) + (IntKind.wrap .i64 (12 * (IntKind.wrap .i64 ((IntKind.wrap .i64 ((IntKind.wrap .i64 a1) - 1)) - (IntKind.wrap .i64 (Int.tdiv a4 12)))))))))]) (some [.v (.int .i64 (IntKind.wrap .i64 ((Int.tmod a4 12) + (IntKind.wrap .i64 (12 * (IntKind.wrap .i64 (Int.tdiv a4 12)))))))]))) = some (l_sl06Partner (s_sl06Partner a0 a1 a2 a3 a4)) := by
  unfold s_sl06Partner
  exact (cond_app (fun x => some (l_sl06Partner x)) (cond_app (fun x => some (l_sl06Partner x)) rfl rfl) (cond_app (fun x => some (l_sl06Partner x)) rfl rfl))
noncomputable def c_sl06Partner : List A → ACall
  | [.ref (.rc [.v (.int .i8 a0), .v (.int .i8 a1), .fa 144 .u8 a2]), .v (.int .i64 a3), .v (.int .i64 a4)] => ⟨Int, some (s_sl06Partner a0 a1 a2 a3 a4), fun r => .one (.v (.int .i64 r))⟩
  | _ => ACall.fail
theorem f_sl06Partner_sound : Sound Try.prog 71 c_sl06Partner := by
  refine sound_good f_sl06Partner_ctx f_sl06Partner_LV 3 Try.func71 (c := f_sl06Partner_c) (by kernel_rfl) (rv := f_sl06Partner_rv) (by kernel_rfl) (by kernel_rfl) (by kernel_rfl) (by kernel_rfl) fun rs => ?_
  unfold c_sl06Partner
  split
  · rename_i a0 a1 a2 a3 a4; intro v h; cases h; exact ⟨rfl, l_sl06Partner (s_sl06Partner a0 a1 a2 a3 a4), rfl, (f_sl06Partner_top a0 a1 a2 a3 a4 _).trans (s_sl06Partner_ok a0 a1 a2 a3 a4)⟩
  · intro v h; cases h

/-! ### function 23: loop.example/g01322/spec.FillByKind -/
noncomputable def f_sFillByKind_c : Code := match Try.f23.body with | some c => c | none => .skip
noncomputable def f_sFillByKind_X : Ctx := ⟨TT, phiOf [(56, c_sl01Ok), (69, c_sl06Kind), (70, c_sl06Lost), (71, c_sl06Partner)], noPsi⟩
def f_sFillByKind_LV : List (Nat × Keep) := [(9, ([1, 2, 4, 7, 8, 9, 10], [], []))]
def f_sFillByKind_rv : List ResultVar := [.cell 4 27, .tmp 5, .tmp 6]
noncomputable def f_sFillByKind_L (r : List A) : Nat → AS → Option (List A) := L f_sFillByKind_X (cnOf f_sFillByKind_LV) f_sFillByKind_c (K0 TT f_sFillByKind_rv) r
theorem f_sFillByKind_ctx : CtxOK Try.prog f_sFillByKind_X := ctx_of tab mix ⟨⟨Try.call56, f_sl01Ok_sound⟩, ⟨Try.call69, f_sl06Kind_sound⟩, ⟨Try.call70, f_sl06Lost_sound⟩, ⟨Try.call71, f_sl06Partner_sound⟩, trivial⟩
noncomputable def f_sFillByKind_s9 (x0 : Int) (x1 : Int) (x2 : Int) (x3 : Int) (x4 : Int) (x5 : (Nat → Int)) (x6 : Int) (x7 : Int) (x8 : (Nat → Int)) (x9 : Int) (x10 : Int) (x11 : (Nat → Int)) (x12 : (List Int)) : AS := ⟨[(1, .a (.v (.int .i64 x0))), (2, .a (.ptr 0 [] (0))), (4, .a (.ptr 1 [] (0))), (7, .a (.ptr 2 [] (0))), (8, .a (.v (.int .i64 x1))), (9, .a (.sl 3)), (10, .a (.v (.int .i64 x2)))], [(0, some ⟨true, .box (.rc [.v (.int .i8 x3), .v (.int .i8 x4), .fa 144 .u8 x5])⟩), (1, some ⟨true, .box (.rc [.v (.int .i8 x6), .v (.int .i8 x7), .fa 144 .u8 x8])⟩), (2, some ⟨true, .box (.rc [.v (.int .i8 x9), .v (.int .i8 x10), .fa 144 .u8 x11])⟩), (3, some ⟨true, .arr (.one (.i .i64)) x12⟩)], 4⟩
noncomputable def l_sFillByKind (r : (Int × Int × (Nat → Int) × Int × Int)) : List A := [.rc [.v (.int .i8 r.1), .v (.int .i8 r.2.1), .fa 144 .u8 r.2.2.1], .v (.int .i64 r.2.2.2.1), .v (.int .i64 r.2.2.2.2)]
theorem f_sFillByKind_step9 (x0 : Int) (x1 : Int) (x2 : Int) (x3 : Int) (x4 : Int) (x5 : (Nat → Int)) (x6 : Int) (x7 : Int) (x8 : (Nat → Int)) (x9 : Int) (x10 : Int) (x11 : (Nat → Int)) (x12 : (List Int)) (r : List A) (h : (cond (decide (x2 < ((List.length x12 : Nat) : Int))) (cond (inB x2 (List.length x12)) (cond (inB (s_sl06Partner x3 x4 x5 x0 (List.getD x12 (Int.toNat x2) 0)) 144) (cond (inB x2 (List.length x12)) (cond (inB (List.getD x12 (Int.toNat x2) 0) 144) (cond ((x5 (Int.toNat (s_sl06Partner x3 x4 x5 x0 (List.getD x12 (Int.toNat x2) 0)))) != 0) (f_sFillByKind_L r 9 (f_sFillByKind_s9 x0 (IntKind.wrap .i64 (x1 + 1)) (IntKind.wrap .i64 (x2 + 1)) x3 x4 x5 x6 x7 x8 x9 x10 (upd x11 (Int.toNat (List.getD x12 (Int.toNat x2) 0)) (x5 (Int.toNat (s_sl06Partner x3 x4 x5 x0 (List.getD x12 (Int.toNat x2) 0))))) x12)) (f_sFillByKind_L r 9 (f_sFillByKind_s9 x0 x1 (IntKind.wrap .i64 (x2 + 1)) x3 x4 x5 x6 x7 x8 x9 x10 (upd x11 (Int.toNat (List.getD x12 (Int.toNat x2) 0)) (x5 (Int.toNat (s_sl06Partner x3 x4 x5 x0 (List.getD x12 (Int.toNat x2) 0))))) x12))) none) none) none) none) (some [.rc [.v (.int .i8 x9), .v (.int .i8 x10), .fa 144 .u8 x11], .v (.int .i64 x1), .v (.int .i64 0)])) = some r) : f_sFillByKind_L r 9 (f_sFillByKind_s9 x0 x1 x2 x3 x4 x5 x6 x7 x8 x9 x10 x11 x12) = some r :=
  step_of' h (by kernel_rfl)
noncomputable def f_sFillByKind_n9 (x0 : Int) (x1 : Int) (x2 : Int) (x3 : Int) (x4 : Int) (x5 : (Nat → Int)) (x6 : Int) (x7 : Int) (x8 : (Nat → Int)) (x9 : Int) (x10 : Int) (x11 : (Nat → Int)) (x12 : (List Int)) : Option ((Int × Int × Int × Int × Int × (Nat → Int) × Int × Int × (Nat → Int) × Int × Int × (Nat → Int) × (List Int)) ⊕ (Int × Int × (Nat → Int) × Int × Int)) := (cond (decide (x2 < ((List.length x12 : Nat) : Int))) (cond (inB x2 (List.length x12)) (cond (inB (s_sl06Partner x3 x4 x5 x0 (List.getD x12 (Int.toNat x2) 0)) 144) (cond (inB x2 (List.length x12)) (cond (inB (List.getD x12 (Int.toNat x2) 0) 144) (cond ((x5 (Int.toNat (s_sl06Partner x3 x4 x5 x0 (List.getD x12 (Int.toNat x2) 0)))) != 0) (some (Sum.inl (x0, (IntKind.wrap .i64 (x1 + 1)), (IntKind.wrap .i64 (x2 + 1)), x3, x4, x5, x6, x7, x8, x9, x10, (upd x11 (Int.toNat (List.getD x12 (Int.toNat x2) 0)) (x5 (Int.toNat (s_sl06Partner x3 x4 x5 x0 (List.getD x12 (Int.toNat x2) 0))))), x12))) (some (Sum.inl (x0, x1, (IntKind.wrap .i64 (x2 + 1)), x3, x4, x5, x6, x7, x8, x9, x10, (upd x11 (Int.toNat (List.getD x12 (Int.toNat x2) 0)) (x5 (Int.toNat (s_sl06Partner x3 x4 x5 x0 (List.getD x12 (Int.toNat x2) 0))))), x12)))) none) none) none) none) (some (Sum.inr (x9, x10, x11, x1, 0))))
noncomputable def f_sFillByKind_run9 (x : (Int × Int × Int × Int × Int × (Nat → Int) × Int × Int × (Nat → Int) × Int × Int × (Nat → Int) × (List Int))) : Option (Int × Int × (Nat → Int) × Int × Int) := iter (fun x => f_sFillByKind_n9 x.1 x.2.1 x.2.2.1 x.2.2.2.1 x.2.2.2.2.1 x.2.2.2.2.2.1 x.2.2.2.2.2.2.1 x.2.2.2.2.2.2.2.1 x.2.2.2.2.2.2.2.2.1 x.2.2.2.2.2.2.2.2.2.1 x.2.2.2.2.2.2.2.2.2.2.1 x.2.2.2.2.2.2.2.2.2.2.2.1 x.2.2.2.2.2.2.2.2.2.2.2.2) FU x
noncomputable def f_sFillByKind_G9 (r : List A) (x : (Int × Int × Int × Int × Int × (Nat → Int) × Int × Int × (Nat → Int) × Int × Int × (Nat → Int) × (List Int))) : Prop := f_sFillByKind_L r 9 (f_sFillByKind_s9 x.1 x.2.1 x.2.2.1 x.2.2.2.1 x.2.2.2.2.1 x.2.2.2.2.2.1 x.2.2.2.2.2.2.1 x.2.2.2.2.2.2.2.1 x.2.2.2.2.2.2.2.2.1 x.2.2.2.2.2.2.2.2.2.1 x.2.2.2.2.2.2.2.2.2.2.1 x.2.2.2.2.2.2.2.2.2.2.2.1 x.2.2.2.2.2.2.2.2.2.2.2.2) = some r
noncomputable def f_sFillByKind_S9 (r : List A) : (Int × Int × (Nat → Int) × Int × Int) → Prop := fun v => r = l_sFillByKind v
theorem f_sFillByKind_go9 (r : List A) : ∀ x, sem (f_sFillByKind_S9 r) (f_sFillByKind_run9 x) → f_sFillByKind_G9 r x :=
  fun x => iter_sound (step := fun x => f_sFillByKind_n9 x.1 x.2.1 x.2.2.1 x.2.2.2.1 x.2.2.2.2.1 x.2.2.2.2.2.1 x.2.2.2.2.2.2.1 x.2.2.2.2.2.2.2.1 x.2.2.2.2.2.2.2.2.1 x.2.2.2.2.2.2.2.2.2.1 x.2.2.2.2.2.2.2.2.2.2.1 x.2.2.2.2.2.2.2.2.2.2.2.1 x.2.2.2.2.2.2.2.2.2.2.2.2) (fun x h => by
    unfold f_sFillByKind_n9 at h
    exact f_sFillByKind_step9 x.1 x.2.1 x.2.2.1 x.2.2.2.1 x.2.2.2.2.1 x.2.2.2.2.2.1 x.2.2.2.2.2.2.1 x.2.2.2.2.2.2.2.1 x.2.2.2.2.2.2.2.2.1 x.2.2.2.2.2.2.2.2.2.1 x.2.2.2.2.2.2.2.2.2.2.1 x.2.2.2.2.2.2.2.2.2.2.2.1 x.2.2.2.2.2.2.2.2.2.2.2.2 r ((sem_cond h (fun h => (sem_cond h (fun h => (sem_cond h (fun h => (sem_cond h (fun h => (sem_cond h (fun h => (sem_cond h (fun h => sem_got h fun q => q) (fun h => sem_got h fun q => q))) (fun h => sem_none h))) (fun h => sem_none h))) (fun h => sem_none h))) (fun h => sem_none h))) (fun h => sem_got h fun q => some_eq q)))) FU x
noncomputable def s_sFillByKind (a0 : Int) (a1 : Int) (a2 : (Nat → Int)) (a3 : Int) : Option (Int × Int × (Nat → Int) × Int × Int) := (cond (!(s_sl01Ok a0 a1 a2)) (some (0, 0, zF, 0, 1)) (cond (!(s_sl06Kind a3)) (some (0, 0, zF, 0, 2)) (Option.bind (s_sl06Lost a0 a1 a2) fun r1 => (f_sFillByKind_run9 (a3, 0, 0, a0, a1, a2, 0, 0, zF, a0, a1, a2, r1)))))
theorem f_sFillByKind_top (a0 : Int) (a1 : Int) (a2 : (Nat → Int)) (a3 : Int) (r : List A) : ev f_sFillByKind_X (lpc (cnOf f_sFillByKind_LV) (f_sFillByKind_L r)) f_sFillByKind_c (K0 TT f_sFillByKind_rv) (enter [.rc [.v (.int .i8 a0), .v (.int .i8 a1), .fa 144 .u8 a2], .v (.int .i64 a3)]) = (cond (!(s_sl01Ok a0 a1 a2)) (some [.rc [.v (.int .i8 0), .v (.int .i8 0), .fa 144 .u8 zF], .v (.int .i64 0), .v (.int .i64 1)]) (cond (!(s_sl06Kind a3)) (some [.rc [.v (.int .i8 0), .v (.int .i8 0), .fa 144 .u8 zF], .v (.int .i64 0), .v (.int .i64 2)]) (Option.bind (s_sl06Lost a0 a1 a2) fun r1 => (f_sFillByKind_L r 9 (f_sFillByKind_s9 a3 0 0 a0 a1 a2 0 0 zF a0 a1 a2 r1))))) := by kernel_rfl
theorem s_sFillByKind_ok (a0 : Int) (a1 : Int) (a2 : (Nat → Int)) (a3 : Int) (v : (Int × Int × (Nat → Int) × Int × Int)) (h : s_sFillByKind a0 a1 a2 a3 = some v) : (cond (!(s_sl01Ok a0 a1 a2)) (some [.rc [.v (.int .i8 0), .v (.int .i8 0), .fa 144 .u8 zF], .v (.int .i64 0), .v (.int .i64 1)]) (cond (!(s_sl06Kind a3)) (some [.rc [.v (.int .i8 0), .v (.int .i8 0), .fa 144 .u8 zF], .v (.int .i64 0), .v (.int .i64 2)]) (Option.bind (s_sl06Lost a0 a1 a2) fun r1 => (f_sFillByKind_L (l_sFillByKind v) 9 (f_sFillByKind_s9 a3 0 0 a0 a1 a2 0 0 zF a0 a1 a2 r1))))) = some (l_sFillByKind v) := by
  unfold s_sFillByKind at h
  have go : ∀ r, sem (fun v => r = l_sFillByKind v) ((cond (!(s_sl01Ok a0 a1 a2)) (some (0, 0, zF, 0, 1)) (cond (!(s_sl06Kind a3)) (some (0, 0, zF, 0, 2)) (Option.bind (s_sl06Lost a0 a1 a2) fun r1 => (f_sFillByKind_run9 (a3, 0, 0, a0, a1, a2, 0, 0, zF, a0, a1, a2, r1)))))) → (cond (!(s_sl01Ok a0 a1 a2)) (some [.rc [.v (.int .i8 0), .v (.int .i8 0), .fa 144 .u8 zF], .v (.int .i64 0), .v (.int .i64 1)]) (cond (!(s_sl06Kind a3)) (some [.rc [.v (.int .i8 0), .v (.int .i8 0), .fa 144 .u8 zF], .v (.int .i64 0), .v (.int .i64 2)]) (Option.bind (s_sl06Lost a0 a1 a2) fun r1 => (f_sFillByKind_L r 9 (f_sFillByKind_s9 a3 0 0 a0 a1 a2 0 0 zF a0 a1 a2 r1))))) = some r := fun r h => (sem_cond h (fun h => sem_got h fun q => some_eq q) (fun h => (sem_cond h (fun h => sem_got h fun q => some_eq q) (fun h => (sem_bind h fun r1 h => f_sFillByKind_go9 r _ h)))))
  exact go (l_sFillByKind v) ⟨v, h, rfl⟩
noncomputable def c_sFillByKind : List A → ACall
  | [.rc [.v (.int .i8 a0), .v (.int .i8 a1), .fa 144 .u8 a2], .v (.int .i64 a3)] => ⟨(Int × Int × (Nat → Int) × Int × Int), s_sFillByKind a0 a1 a2 a3, fun r => .tup [.rc [.v (.int .i8 r.1), .v (.int .i8 r.2.1), .fa 144 .u8 r.2.2.1], .v (.int .i64 r.2.2.2.1), .v (.int .i64 r.2.2.2.2)]⟩
  | _ => ACall.fail
theorem f_sFillByKind_sound : Sound Try.prog 23 c_sFillByKind := by
  refine sound_good f_sFillByKind_ctx f_sFillByKind_LV 2 Try.func23 (c := f_sFillByKind_c) (by kernel_rfl) (rv := f_sFillByKind_rv) (by kernel_rfl) (by kernel_rfl) (by kernel_rfl) (by kernel_rfl) fun rs => ?_
  unfold c_sFillByKind
  split
  · rename_i a0 a1 a2 a3; intro v h; exact ⟨rfl, l_sFillByKind v, rfl, (f_sFillByKind_top a0 a1 a2 a3 _).trans (s_sFillByKind_ok a0 a1 a2 a3 v h)⟩
  · intro v h; cases h

/-! ### function 72: loop.example/g01322/impl.isKind -/
noncomputable def f_iisKind_c : Code := match Try.f72.body with | some c => c | none => .skip
noncomputable def f_iisKind_X : Ctx := ⟨TT, phiOf [(84, c_iwithin)], noPsi⟩
def f_iisKind_LV : List (Nat × Keep) := []
def f_iisKind_rv : List ResultVar := [.tmp 2]
noncomputable def f_iisKind_L (r : List A) : Nat → AS → Option (List A) := L f_iisKind_X (cnOf f_iisKind_LV) f_iisKind_c (K0 TT f_iisKind_rv) r
theorem f_iisKind_ctx : CtxOK Try.prog f_iisKind_X := ctx_of tab mix ⟨⟨Try.call84, f_iwithin_sound⟩, trivial⟩
noncomputable def s_iisKind (a0 : Int) : Bool := (s_iwithin a0 0 2)
theorem f_iisKind_top (a0 : Int) (r : List A) : ev f_iisKind_X (lpc (cnOf f_iisKind_LV) (f_iisKind_L r)) f_iisKind_c (K0 TT f_iisKind_rv) (enter [.v (.int .i64 a0)]) = (some [.v (.bool (s_iwithin a0 0 2))]) := by kernel_rfl
noncomputable def l_iisKind (r : Bool) : List A := [.v (.bool r)]
theorem s_iisKind_ok (a0 : Int) : (some [.v (.bool (s_iwithin a0 0 2))]) = some (l_iisKind (s_iisKind a0)) := by
  unfold s_iisKind
  exact rfl
noncomputable def c_iisKind : List A → ACall
  | [.v (.int .i64 a0)] => ⟨Bool, some (s_iisKind a0), fun r => .one (.v (.bool r))⟩
  | _ => ACall.fail
theorem f_iisKind_sound : Sound Try.prog 72 c_iisKind := by
  refine sound_good f_iisKind_ctx f_iisKind_LV 1 Try.func72 (c := f_iisKind_c) (by kernel_rfl) (rv := f_iisKind_rv) (by kernel_rfl) (by kernel_rfl) (by kernel_rfl) (by kernel_rfl) fun rs => ?_
  unfold c_iisKind
  split
  · rename_i a0; intro v h; cases h; exact ⟨rfl, l_iisKind (s_iisKind a0), rfl, (f_iisKind_top a0 _).trans (s_iisKind_ok a0)⟩
  · intro v h; cases h

/-! ### function 74: (loop.example/g01322/impl.Picture).partner -/
noncomputable def f_iPicture_partner_c : Code := match Try.f74.body with | some c => c | none => .skip
noncomputable def f_iPicture_partner_X : Ctx := ⟨TT, phiOf [], noPsi⟩
def f_iPicture_partner_LV : List (Nat × Keep) := []
def f_iPicture_partner_rv : List ResultVar := [.tmp 6]
noncomputable def f_iPicture_partner_L (r : List A) : Nat → AS → Option (List A) := L f_iPicture_partner_X (cnOf f_iPicture_partner_LV) f_iPicture_partner_c (K0 TT f_iPicture_partner_rv) r
theorem f_iPicture_partner_ctx : CtxOK Try.prog f_iPicture_partner_X := ctx_of tab mix trivial
noncomputable def s_iPicture_partner (a0 : Int) (a1 : Int) (a2 : (Nat → Int)) (a3 : Int) (a4 : Int) : Int := (cond (a3 != 1) (cond (a3 != 0) (IntKind.wrap .i64 ((IntKind.wrap .i64 ((IntKind.wrap .i64 ((IntKind.wrap .i64 a0) - 1)) - (Int.tmod a4 12))) + (IntKind.wrap .i64 (12 * (IntKind.wrap .i64 ((IntKind.wrap .i64 ((IntKind.wrap .i64 a1) - 1)) - (IntKind.wrap .i64 (Int.tdiv a4 12)))))))) (IntKind.wrap .i64 ((IntKind.wrap .i64 ((IntKind.wrap .i64 ((IntKind.wrap .i64 a0) - 1)) - (Int.tmod a4 12))) + (IntKind.wrap .i64 (12 * (IntKind.wrap .i64 (Int.tdiv a4 12))))))) (cond (a3 != 0) (IntKind.wrap .i64 ((Int.tmod a4 12) + (IntKind.wrap .i64 (12 * (IntKind.wrap .i64 ((IntKind.wrap .i64 ((IntKind.wrap .i64 a1) - 1)) - (IntKind.wrap .i64 (Int.tdiv a4 12)))))))) (IntKind.wrap .i64 ((Int.tmod a4 12) + (IntKind.wrap .i64 (12 * (IntKind.wrap .i64 (Int.tdiv a4 12))))))))
theorem f_iPicture_partner_top (a0 : Int) (a1 : Int) (a2 : (Nat → Int)) (a3 : Int) (a4 : Int) (r : List A) : ev f_iPicture_partner_X (lpc (cnOf f_iPicture_partner_LV) (f_iPicture_partner_L r)) f_iPicture_partner_c (K0 TT f_iPicture_partner_rv) (enter [.rc [.v (.int .i8 a0), .v (.int .i8 a1), .fa 144 .u8 a2], .v (.int .i64 a3), .v (.int .i64 a4)]) = (cond (a3 != 1) (cond (a3 != 0) (some [.v (.int .i64 (IntKind.wrap .i64 ((IntKind.wrap .i64 ((IntKind.wrap .i64 ((IntKind.wrap .i64 a0) - 1)) - (Int.tmod a4 12))) + (IntKind.wrap .i64 (12 * (IntKind.wrap .i64 ((IntKind.wrap .i64 ((IntKind.wrap .i64 a1) - 1)) - (IntKind.wrap .i64 (Int.tdiv a4 12)))))))))]) (some [.v (.int .i64 (IntKind.wrap .i64 ((IntKind.wrap .i64 ((IntKind.wrap .i64 ((IntKind.wrap .i64 a0) - 1)) - (Int.tmod a4 12))) + (IntKind.wrap .i64 (12 * (IntKind.wrap .i64 (Int.tdiv a4 12)))))))])) (cond (a3 != 0) (some [.v (.int .i64 (IntKind.wrap .i64 ((Int.tmod a4 12) + (IntKind.wrap .i64 (12 * (IntKind.wrap .i64 ((IntKind.wrap .i64 ((IntKind.wrap .i64 a1) - 1)) - (IntKind.wrap .i64 (Int.tdiv a4 12)))))))))]) (some [.v (.int .i64 (IntKind.wrap .i64 ((Int.tmod a4 12) + (IntKind.wrap .i64 (12 * (IntKind.wrap .i64 (Int.tdiv a4 12)))))))]))) := by kernel_rfl
noncomputable def l_iPicture_partner (r : Int) : List A := [.v (.int .i64 r)]
theorem s_iPicture_partner_ok (a0 : Int) (a1 : Int) (a2 : (Nat → Int)) (a3 : Int) (a4 : Int) : (cond (a3 != 1) (cond (a3 != 0) (some [.v (.int .i64 (IntKind.wrap .i64 ((IntKind.wrap .i64 ((IntKind.wrap .i64 ((IntKind.wrap .i64 a0) - 1)) - (Int.tmod a4 12))) + (IntKind.wrap .i64 (12 * (IntKind.wrap .i64 ((IntKind.wrap .i64 ((IntKind.wrap .i64 a1) - 1)) - (IntKind.wrap .i64 (Int.tdiv a4 12)))))))))]) (some [.v (.int .i64 (IntKind.wrap .i64 ((IntKind.wrap .i64 ((IntKind.wrap .i64 ((IntKind.wrap .i64 a0) - 1)) - (Int.tmod a4 12))) + (IntKind.wrap .i64 (12 * (IntKind.wrap .i64 (Int.tdiv a4 12)))))))])) (cond (a3 != 0) (some [.v (.int .i64 (IntKind.wrap .i64 ((Int.tmod a4 12) + (IntKind.wrap .i64 (12 * (IntKind.wrap .i64 ((IntKind.wrap .i64 ((IntKind.wrap .i64 a1) - 1)) - (IntKind.wrap .i64 (Int.tdiv a4 12)))))))))]) (some [.v (.int .i64 (IntKind.wrap .i64 ((Int.tmod a4 12) + (IntKind.wrap .i64 (12 * (IntKind.wrap .i64 (Int.tdiv a4 12)))))))]))) = some (l_iPicture_partner (s_iPicture_partner a0 a1 a2 a3 a4)) := by
  unfold s_iPicture_partner
  exact (cond_app (fun x => some (l_iPicture_partner x)) (cond_app (fun x => some (l_iPicture_partner x)) rfl rfl) (cond_app (fun x => some (l_iPicture_partner x)) rfl rfl))
noncomputable def c_iPicture_partner : List A → ACall
  | [.rc [.v (.int .i8 a0), .v (.int .i8 a1), .fa 144 .u8 a2], .v (.int .i64 a3), .v (.int .i64 a4)] => ⟨Int, some (s_iPicture_partner a0 a1 a2 a3 a4), fun r => .one (.v (.int .i64 r))⟩
  | _ => ACall.fail
theorem f_iPicture_partner_sound : Sound Try.prog 74 c_iPicture_partner := by
  refine sound_good f_iPicture_partner_ctx f_iPicture_partner_LV 3 Try.func74 (c := f_iPicture_partner_c) (by kernel_rfl) (rv := f_iPicture_partner_rv) (by kernel_rfl) (by kernel_rfl) (by kernel_rfl) (by kernel_rfl) fun rs => ?_
  unfold c_iPicture_partner
  split
  · rename_i a0 a1 a2 a3 a4; intro v h; cases h; exact ⟨rfl, l_iPicture_partner (s_iPicture_partner a0 a1 a2 a3 a4), rfl, (f_iPicture_partner_top a0 a1 a2 a3 a4 _).trans (s_iPicture_partner_ok a0 a1 a2 a3 a4)⟩
  · intro v h; cases h

/-! ### function 73: loop.example/g01322/impl.FillByKind$1 -/
noncomputable def f_iFillByKind_1_c : Code := match Try.f73.body with | some c => c | none => .skip
noncomputable def f_iFillByKind_1_X : Ctx := ⟨TT, phiOf [(74, c_iPicture_partner)], noPsi⟩
def f_iFillByKind_1_LV : List (Nat × Keep) := []
def f_iFillByKind_1_rv : List ResultVar := [.tmp 4]
noncomputable def f_iFillByKind_1_L (r : List A) : Nat → AS → Option (List A) := L f_iFillByKind_1_X (cnOf f_iFillByKind_1_LV) f_iFillByKind_1_c (K0 TT f_iFillByKind_1_rv) r
theorem f_iFillByKind_1_ctx : CtxOK Try.prog f_iFillByKind_1_X := ctx_of tab mix ⟨⟨Try.call74, f_iPicture_partner_sound⟩, trivial⟩
noncomputable def s_iFillByKind_1 (a0 : Int) (a1 : Int) (a2 : Int) (a3 : (Nat → Int)) (a4 : Int) : Option Int := (cond (inB (s_iPicture_partner a1 a2 a3 a4 a0) 144) (some (a3 (Int.toNat (s_iPicture_partner a1 a2 a3 a4 a0)))) none)
theorem f_iFillByKind_1_top (a0 : Int) (a1 : Int) (a2 : Int) (a3 : (Nat → Int)) (a4 : Int) (r : List A) : ev f_iFillByKind_1_X (lpc (cnOf f_iFillByKind_1_LV) (f_iFillByKind_1_L r)) f_iFillByKind_1_c (K0 TT f_iFillByKind_1_rv) (enter [.v (.int .i64 a0), .ref (.rc [.v (.int .i8 a1), .v (.int .i8 a2), .fa 144 .u8 a3]), .ref (.v (.int .i64 a4))]) = (cond (inB (s_iPicture_partner a1 a2 a3 a4 a0) 144) (some [.v (.int .u8 (a3 (Int.toNat (s_iPicture_partner a1 a2 a3 a4 a0))))]) none) := by kernel_rfl
noncomputable def l_iFillByKind_1 (r : Int) : List A := [.v (.int .u8 r)]
theorem s_iFillByKind_1_ok (a0 : Int) (a1 : Int) (a2 : Int) (a3 : (Nat → Int)) (a4 : Int) (v : Int) (h : s_iFillByKind_1 a0 a1 a2 a3 a4 = some v) : (cond (inB (s_iPicture_partner a1 a2 a3 a4 a0) 144) (some [.v (.int .u8 (a3 (Int.toNat (s_iPicture_partner a1 a2 a3 a4 a0))))]) none) = some (l_iFillByKind_1 v) := by
  have e : (cond (inB (s_iPicture_partner a1 a2 a3 a4 a0) 144) (some [.v (.int .u8 (a3 (Int.toNat (s_iPicture_partner a1 a2 a3 a4 a0))))]) none) = Option.map l_iFillByKind_1 (s_iFillByKind_1 a0 a1 a2 a3 a4) := by
    unfold s_iFillByKind_1
    exact (cond_app (Option.map l_iFillByKind_1) rfl rfl)
  rw [e, h]; rfl
noncomputable def c_iFillByKind_1 : List A → ACall
  | [.v (.int .i64 a0), .ref (.rc [.v (.int .i8 a1), .v (.int .i8 a2), .fa 144 .u8 a3]), .ref (.v (.int .i64 a4))] => ⟨Int, s_iFillByKind_1 a0 a1 a2 a3 a4, fun r => .one (.v (.int .u8 r))⟩
  | _ => ACall.fail
theorem f_iFillByKind_1_sound : Sound Try.prog 73 c_iFillByKind_1 := by
  refine sound_good f_iFillByKind_1_ctx f_iFillByKind_1_LV 3 Try.func73 (c := f_iFillByKind_1_c) (by kernel_rfl) (rv := f_iFillByKind_1_rv) (by kernel_rfl) (by kernel_rfl) (by kernel_rfl) (by kernel_rfl) fun rs => ?_
  unfold c_iFillByKind_1
  split
  · rename_i a0 a1 a2 a3 a4; intro v h; exact ⟨rfl, l_iFillByKind_1 v, rfl, (f_iFillByKind_1_top a0 a1 a2 a3 a4 _).trans (s_iFillByKind_1_ok a0 a1 a2 a3 a4 v h)⟩
  · intro v h; cases h

/-! ### function 67: loop.example/g01322/impl.filled -/
noncomputable def f_ifilled_b_c : Code := match Try.f67.body with | some c => c | none => .skip
noncomputable def f_ifilled_b_X : Ctx := ⟨TT, phiOf [(73, c_iFillByKind_1), (97, c_iPicture_numbers)], noPsi⟩
def f_ifilled_b_LV : List (Nat × Keep) := [(3, ([1, 2, 4, 6, 7, 12, 13, 14], [], []))]
def f_ifilled_b_rv : List ResultVar := [.cell 4 27, .tmp 5]
noncomputable def f_ifilled_b_L (r : List A) : Nat → AS → Option (List A) := L f_ifilled_b_X (cnOf f_ifilled_b_LV) f_ifilled_b_c (K0 TT f_ifilled_b_rv) r
theorem f_ifilled_b_ctx : CtxOK Try.prog f_ifilled_b_X := ctx_of tab mix ⟨⟨Try.call73, f_iFillByKind_1_sound⟩, ⟨Try.call97, f_iPicture_numbers_sound⟩, trivial⟩
noncomputable def f_ifilled_b_s3 (x0 : Int) (x1 : Int) (x2 : Int) (x3 : Int) (x4 : Int) (x5 : (Nat → Int)) (x6 : Int) (x7 : Int) (x8 : Int) (x9 : (Nat → Int)) (x10 : Int) (x11 : Int) (x12 : (Nat → Int)) (x13 : Int) (x14 : Int) (x15 : (Nat → Int)) (x16 : (List Int)) : AS := ⟨[(1, .a (.clo 73 [.ptr 0 [] (0), .ptr 1 [] (0)])), (2, .a (.ptr 2 [] (0))), (4, .a (.ptr 3 [] (0))), (6, .a (.ptr 4 [] (0))), (7, .a (.v (.int .i64 x0))), (12, .a (.sl 5)), (13, .a (.v (.int .i64 x1))), (14, .a (.v (.int .i64 x2)))], [(0, some ⟨false, .box (.rc [.v (.int .i8 x3), .v (.int .i8 x4), .fa 144 .u8 x5])⟩), (1, some ⟨false, .box (.v (.int .i64 x6))⟩), (2, some ⟨true, .box (.rc [.v (.int .i8 x7), .v (.int .i8 x8), .fa 144 .u8 x9])⟩), (3, some ⟨true, .box (.rc [.v (.int .i8 x10), .v (.int .i8 x11), .fa 144 .u8 x12])⟩), (4, some ⟨true, .box (.rc [.v (.int .i8 x13), .v (.int .i8 x14), .fa 144 .u8 x15])⟩), (5, some ⟨true, .arr (.one (.i .i64)) x16⟩)], 6⟩
noncomputable def l_ifilled_b (r : (Int × Int × (Nat → Int) × Int)) : List A := [.rc [.v (.int .i8 r.1), .v (.int .i8 r.2.1), .fa 144 .u8 r.2.2.1], .v (.int .i64 r.2.2.2)]
theorem f_ifilled_b_step3 (x0 : Int) (x1 : Int) (x2 : Int) (x3 : Int) (x4 : Int) (x5 : (Nat → Int)) (x6 : Int) (x7 : Int) (x8 : Int) (x9 : (Nat → Int)) (x10 : Int) (x11 : Int) (x12 : (Nat → Int)) (x13 : Int) (x14 : Int) (x15 : (Nat → Int)) (x16 : (List Int)) (r : List A) (h : (cond (decide (x2 < x1)) (cond (inB x2 (List.length x16)) (cond (inB (List.getD x16 (Int.toNat x2) 0) 144) (cond ((x9 (Int.toNat (List.getD x16 (Int.toNat x2) 0))) != 0) (f_ifilled_b_L r 3 (f_ifilled_b_s3 x0 x1 (IntKind.wrap .i64 (x2 + 1)) x3 x4 x5 x6 x7 x8 x9 x10 x11 x12 x13 x14 x15 x16)) (Option.bind (s_iFillByKind_1 (List.getD x16 (Int.toNat x2) 0) x3 x4 x5 x6) fun r2 => (cond (inB (List.getD x16 (Int.toNat x2) 0) 144) (cond (inB (List.getD x16 (Int.toNat x2) 0) 144) (cond (((upd x15 (Int.toNat (List.getD x16 (Int.toNat x2) 0)) r2) (Int.toNat (List.getD x16 (Int.toNat x2) 0))) != 0) (f_ifilled_b_L r 3 (f_ifilled_b_s3 (IntKind.wrap .i64 (x0 + 1)) x1 (IntKind.wrap .i64 (x2 + 1)) x3 x4 x5 x6 x7 x8 x9 x10 x11 x12 x13 x14 (upd x15 (Int.toNat (List.getD x16 (Int.toNat x2) 0)) r2) x16)) (f_ifilled_b_L r 3 (f_ifilled_b_s3 x0 x1 (IntKind.wrap .i64 (x2 + 1)) x3 x4 x5 x6 x7 x8 x9 x10 x11 x12 x13 x14 (upd x15 (Int.toNat (List.getD x16 (Int.toNat x2) 0)) r2) x16))) none) none))) none) none) (some [.rc [.v (.int .i8 x13), .v (.int .i8 x14), .fa 144 .u8 x15], .v (.int .i64 x0)])) = some r) : f_ifilled_b_L r 3 (f_ifilled_b_s3 x0 x1 x2 x3 x4 x5 x6 x7 x8 x9 x10 x11 x12 x13 x14 x15 x16) = some r :=
  step_of' h (by kernel_rfl)
noncomputable def f_ifilled_b_n3 (x0 : Int) (x1 : Int) (x2 : Int) (x3 : Int) (x4 : Int) (x5 : (Nat → Int)) (x6 : Int) (x7 : Int) (x8 : Int) (x9 : (Nat → Int)) (x10 : Int) (x11 : Int) (x12 : (Nat → Int)) (x13 : Int) (x14 : Int) (x15 : (Nat → Int)) (x16 : (List Int)) : Option ((Int × Int × Int × Int × Int × (Nat → Int) × Int × Int × Int × (Nat → Int) × Int × Int × (Nat → Int) × Int × Int × (Nat → Int) × (List Int)) ⊕ (Int × Int × (Nat → Int) × Int)) := (cond (decide (x2 < x1)) (cond (inB x2 (List.length x16)) (cond (inB (List.getD x16 (Int.toNat x2) 0) 144) (cond ((x9 (Int.toNat (List.getD x16 (Int.toNat x2) 0))) != 0) (some (Sum.inl (x0, x1, (IntKind.wrap .i64 (x2 + 1)), x3, x4, x5, x6, x7, x8, x9, x10, x11, x12, x13, x14, x15, x16))) (Option.bind (s_iFillByKind_1 (List.getD x16 (Int.toNat x2) 0) x3 x4 x5 x6) fun r2 => (cond (inB (List.getD x16 (Int.toNat x2) 0) 144) (cond (inB (List.getD x16 (Int.toNat x2) 0) 144) (cond (((upd x15 (Int.toNat (List.getD x16 (Int.toNat x2) 0)) r2) (Int.toNat (List.getD x16 (Int.toNat x2) 0))) != 0) (some (Sum.inl ((IntKind.wrap .i64 (x0 + 1)), x1, (IntKind.wrap .i64 (x2 + 1)), x3, x4, x5, x6, x7, x8, x9, x10, x11, x12, x13, x14, (upd x15 (Int.toNat (List.getD x16 (Int.toNat x2) 0)) r2), x16))) (some (Sum.inl (x0, x1, (IntKind.wrap .i64 (x2 + 1)), x3, x4, x5, x6, x7, x8, x9, x10, x11, x12, x13, x14, (upd x15 (Int.toNat (List.getD x16 (Int.toNat x2) 0)) r2), x16)))) none) none))) none) none) (some (Sum.inr (x13, x14, x15, x0))))
noncomputable def f_ifilled_b_run3 (x : (Int × Int × Int × Int × Int × (Nat → Int) × Int × Int × Int × (Nat → Int) × Int × Int × (Nat → Int) × Int × Int × (Nat → Int) × (List Int))) : Option (Int × Int × (Nat → Int) × Int) := iter (fun x => f_ifilled_b_n3 x.1 x.2.1 x.2.2.1 x.2.2.2.1 x.2.2.2.2.1 x.2.2.2.2.2.1 x.2.2.2.2.2.2.1 x.2.2.2.2.2.2.2.1 x.2.2.2.2.2.2.2.2.1 x.2.2.2.2.2.2.2.2.2.1 x.2.2.2.2.2.2.2.2.2.2.1 x.2.2.2.2.2.2.2.2.2.2.2.1 x.2.2.2.2.2.2.2.2.2.2.2.2.1 x.2.2.2.2.2.2.2.2.2.2.2.2.2.1 x.2.2.2.2.2.2.2.2.2.2.2.2.2.2.1 x.2.2.2.2.2.2.2.2.2.2.2.2.2.2.2.1 x.2.2.2.2.2.2.2.2.2.2.2.2.2.2.2.2) FU x
noncomputable def f_ifilled_b_G3 (r : List A) (x : (Int × Int × Int × Int × Int × (Nat → Int) × Int × Int × Int × (Nat → Int) × Int × Int × (Nat → Int) × Int × Int × (Nat → Int) × (List Int))) : Prop := f_ifilled_b_L r 3 (f_ifilled_b_s3 x.1 x.2.1 x.2.2.1 x.2.2.2.1 x.2.2.2.2.1 x.2.2.2.2.2.1 x.2.2.2.2.2.2.1 x.2.2.2.2.2.2.2.1 x.2.2.2.2.2.2.2.2.1 x.2.2.2.2.2.2.2.2.2.1 x.2.2.2.2.2.2.2.2.2.2.1 x.2.2.2.2.2.2.2.2.2.2.2.1 x.2.2.2.2.2.2.2.2.2.2.2.2.1 x.2.2.2.2.2.2.2.2.2.2.2.2.2.1 x.2.2.2.2.2.2.2.2.2.2.2.2.2.2.1 x.2.2.2.2.2.2.2.2.2.2.2.2.2.2.2.1 x.2.2.2.2.2.2.2.2.2.2.2.2.2.2.2.2) = some r
noncomputable def f_ifilled_b_S3 (r : List A) : (Int × Int × (Nat → Int) × Int) → Prop := fun v => r = l_ifilled_b v
theorem f_ifilled_b_go3 (r : List A) : ∀ x, sem (f_ifilled_b_S3 r) (f_ifilled_b_run3 x) → f_ifilled_b_G3 r x :=
  fun x => iter_sound (step := fun x => f_ifilled_b_n3 x.1 x.2.1 x.2.2.1 x.2.2.2.1 x.2.2.2.2.1 x.2.2.2.2.2.1 x.2.2.2.2.2.2.1 x.2.2.2.2.2.2.2.1 x.2.2.2.2.2.2.2.2.1 x.2.2.2.2.2.2.2.2.2.1 x.2.2.2.2.2.2.2.2.2.2.1 x.2.2.2.2.2.2.2.2.2.2.2.1 x.2.2.2.2.2.2.2.2.2.2.2.2.1 x.2.2.2.2.2.2.2.2.2.2.2.2.2.1 x.2.2.2.2.2.2.2.2.2.2.2.2.2.2.1 x.2.2.2.2.2.2.2.2.2.2.2.2.2.2.2.1 x.2.2.2.2.2.2.2.2.2.2.2.2.2.2.2.2) (fun x h => by
    unfold f_ifilled_b_n3 at h
    exact f_ifilled_b_step3 x.1 x.2.1 x.2.2.1 x.2.2.2.1 x.2.2.2.2.1 x.2.2.2.2.2.1 x.2.2.2.2.2.2.1 x.2.2.2.2.2.2.2.1 x.2.2.2.2.2.2.2.2.1 x.2.2.2.2.2.2.2.2.2.1 x.2.2.2.2.2.2.2.2.2.2.1 x.2.2.2.2.2.2.2.2.2.2.2.1 x.2.2.2.2.2.2.2.2.2.2.2.2.1 x.2.2.2.2.2.2.2.2.2.2.2.2.2.1 x.2.2.2.2.2.2.2.2.2.2.2.2.2.2.1 x.2.2.2.2.2.2.2.2.2.2.2.2.2.2.2.1 x.2.2.2.2.2.2.2.2.2.2.2.2.2.2.2.2 r ((sem_cond h (fun h => (sem_cond h (fun h => (sem_cond h (fun h => (sem_cond h (fun h => sem_got h fun q => q) (fun h => (sem_bind h fun r2 h => (sem_cond h (fun h => (sem_cond h (fun h => (sem_cond h (fun h => sem_got h fun q => q) (fun h => sem_got h fun q => q))) (fun h => sem_none h))) (fun h => sem_none h)))))) (fun h => sem_none h))) (fun h => sem_none h))) (fun h => sem_got h fun q => some_eq q)))) FU x
noncomputable def s_ifilled_b (a0 : Int) (a1 : Int) (a2 : (Nat → Int)) (a3 : Int) (a4 : Int) (a5 : (Nat → Int)) (a6 : Int) : Option (Int × Int × (Nat → Int) × Int) := (Option.bind (s_iPicture_numbers a0 a1 a2) fun r1 => (f_ifilled_b_run3 (0, ((List.length r1 : Nat) : Int), 0, a3, a4, a5, a6, a0, a1, a2, 0, 0, zF, a0, a1, a2, r1)))
theorem f_ifilled_b_top (a0 : Int) (a1 : Int) (a2 : (Nat → Int)) (a3 : Int) (a4 : Int) (a5 : (Nat → Int)) (a6 : Int) (r : List A) : ev f_ifilled_b_X (lpc (cnOf f_ifilled_b_LV) (f_ifilled_b_L r)) f_ifilled_b_c (K0 TT f_ifilled_b_rv) (enter [.rc [.v (.int .i8 a0), .v (.int .i8 a1), .fa 144 .u8 a2], .clo 73 [.ref (.rc [.v (.int .i8 a3), .v (.int .i8 a4), .fa 144 .u8 a5]), .ref (.v (.int .i64 a6))]]) = (Option.bind (s_iPicture_numbers a0 a1 a2) fun r1 => (f_ifilled_b_L r 3 (f_ifilled_b_s3 0 ((List.length r1 : Nat) : Int) 0 a3 a4 a5 a6 a0 a1 a2 0 0 zF a0 a1 a2 r1))) := by kernel_rfl
theorem s_ifilled_b_ok (a0 : Int) (a1 : Int) (a2 : (Nat → Int)) (a3 : Int) (a4 : Int) (a5 : (Nat → Int)) (a6 : Int) (v : (Int × Int × (Nat → Int) × Int)) (h : s_ifilled_b a0 a1 a2 a3 a4 a5 a6 = some v) : (Option.bind (s_iPicture_numbers a0 a1 a2) fun r1 => (f_ifilled_b_L (l_ifilled_b v) 3 (f_ifilled_b_s3 0 ((List.length r1 : Nat) : Int) 0 a3 a4 a5 a6 a0 a1 a2 0 0 zF a0 a1 a2 r1))) = some (l_ifilled_b v) := by
  unfold s_ifilled_b at h
  have go : ∀ r, sem (fun v => r = l_ifilled_b v) ((Option.bind (s_iPicture_numbers a0 a1 a2) fun r1 => (f_ifilled_b_run3 (0, ((List.length r1 : Nat) : Int), 0, a3, a4, a5, a6, a0, a1, a2, 0, 0, zF, a0, a1, a2, r1)))) → (Option.bind (s_iPicture_numbers a0 a1 a2) fun r1 => (f_ifilled_b_L r 3 (f_ifilled_b_s3 0 ((List.length r1 : Nat) : Int) 0 a3 a4 a5 a6 a0 a1 a2 0 0 zF a0 a1 a2 r1))) = some r := fun r h => (sem_bind h fun r1 h => f_ifilled_b_go3 r _ h)
  exact go (l_ifilled_b v) ⟨v, h, rfl⟩
noncomputable def c_ifilled_b : List A → ACall
  | [.rc [.v (.int .i8 a0), .v (.int .i8 a1), .fa 144 .u8 a2], .clo 73 [.ref (.rc [.v (.int .i8 a3), .v (.int .i8 a4), .fa 144 .u8 a5]), .ref (.v (.int .i64 a6))]] => ⟨(Int × Int × (Nat → Int) × Int), s_ifilled_b a0 a1 a2 a3 a4 a5 a6, fun r => .tup [.rc [.v (.int .i8 r.1), .v (.int .i8 r.2.1), .fa 144 .u8 r.2.2.1], .v (.int .i64 r.2.2.2)]⟩
  | _ => ACall.fail
theorem f_ifilled_b_sound : Sound Try.prog 67 c_ifilled_b := by
  refine sound_good f_ifilled_b_ctx f_ifilled_b_LV 2 Try.func67 (c := f_ifilled_b_c) (by kernel_rfl) (rv := f_ifilled_b_rv) (by kernel_rfl) (by kernel_rfl) (by kernel_rfl) (by kernel_rfl) fun rs => ?_
  unfold c_ifilled_b
  split
  · rename_i a0 a1 a2 a3 a4 a5 a6; intro v h; exact ⟨rfl, l_ifilled_b v, rfl, (f_ifilled_b_top a0 a1 a2 a3 a4 a5 a6 _).trans (s_ifilled_b_ok a0 a1 a2 a3 a4 a5 a6 v h)⟩
  · intro v h; cases h
def m_ifilled_b : List A → Bool
  | [_, .clo 73 _] => true
  | _ => false

/-! ### function 24: loop.example/g01322/impl.FillByKind -/
noncomputable def f_iFillByKind_c : Code := match Try.f24.body with | some c => c | none => .skip
noncomputable def f_iFillByKind_X : Ctx := ⟨TT, phiOf [(67, c_ifilled_b), (62, c_icodeOf), (63, c_iValidPicture), (72, c_iisKind)], noPsi⟩
def f_iFillByKind_LV : List (Nat × Keep) := []
def f_iFillByKind_rv : List ResultVar := [.cell 4 27, .tmp 5, .tmp 6]
noncomputable def f_iFillByKind_L (r : List A) : Nat → AS → Option (List A) := L f_iFillByKind_X (cnOf f_iFillByKind_LV) f_iFillByKind_c (K0 TT f_iFillByKind_rv) r
theorem f_iFillByKind_ctx : CtxOK Try.prog f_iFillByKind_X := ctx_of tab mix ⟨⟨Try.call67, f_ifilled_b_sound⟩, ⟨Try.call62, f_icodeOf_sound⟩, ⟨Try.call63, f_iValidPicture_sound⟩, ⟨Try.call72, f_iisKind_sound⟩, trivial⟩
noncomputable def s_iFillByKind (a0 : Int) (a1 : Int) (a2 : (Nat → Int)) (a3 : Int) : Option (Int × Int × (Nat → Int) × Int × Int) := (cond ((s_icodeOf (s_iValidPicture a0 a1 a2) (s_iisKind a3)) != 0) (some (0, 0, zF, 0, (s_icodeOf (s_iValidPicture a0 a1 a2) (s_iisKind a3)))) (Option.bind (s_ifilled_b a0 a1 a2 a0 a1 a2 a3) fun r1 => (some ((r1.1), (r1.2.1), (r1.2.2.1), (r1.2.2.2), 0))))
theorem f_iFillByKind_top (a0 : Int) (a1 : Int) (a2 : (Nat → Int)) (a3 : Int) (r : List A) : ev f_iFillByKind_X (lpc (cnOf f_iFillByKind_LV) (f_iFillByKind_L r)) f_iFillByKind_c (K0 TT f_iFillByKind_rv) (enter [.rc [.v (.int .i8 a0), .v (.int .i8 a1), .fa 144 .u8 a2], .v (.int .i64 a3)]) = (cond ((s_icodeOf (s_iValidPicture a0 a1 a2) (s_iisKind a3)) != 0) (some [.rc [.v (.int .i8 0), .v (.int .i8 0), .fa 144 .u8 zF], .v (.int .i64 0), .v (.int .i64 (s_icodeOf (s_iValidPicture a0 a1 a2) (s_iisKind a3)))]) (Option.bind (s_ifilled_b a0 a1 a2 a0 a1 a2 a3) fun r1 => (some [.rc [.v (.int .i8 r1.1), .v (.int .i8 r1.2.1), .fa 144 .u8 r1.2.2.1], .v (.int .i64 r1.2.2.2), .v (.int .i64 0)]))) := by kernel_rfl
noncomputable def l_iFillByKind (r : (Int × Int × (Nat → Int) × Int × Int)) : List A := [.rc [.v (.int .i8 r.1), .v (.int .i8 r.2.1), .fa 144 .u8 r.2.2.1], .v (.int .i64 r.2.2.2.1), .v (.int .i64 r.2.2.2.2)]
theorem s_iFillByKind_ok (a0 : Int) (a1 : Int) (a2 : (Nat → Int)) (a3 : Int) (v : (Int × Int × (Nat → Int) × Int × Int)) (h : s_iFillByKind a0 a1 a2 a3 = some v) : (cond ((s_icodeOf (s_iValidPicture a0 a1 a2) (s_iisKind a3)) != 0) (some [.rc [.v (.int .i8 0), .v (.int .i8 0), .fa 144 .u8 zF], .v (.int .i64 0), .v (.int .i64 (s_icodeOf (s_iValidPicture a0 a1 a2) (s_iisKind a3)))]) (Option.bind (s_ifilled_b a0 a1 a2 a0 a1 a2 a3) fun r1 => (some [.rc [.v (.int .i8 r1.1), .v (.int .i8 r1.2.1), .fa 144 .u8 r1.2.2.1], .v (.int .i64 r1.2.2.2), .v (.int .i64 0)]))) = some (l_iFillByKind v) := by
  have e : (cond ((s_icodeOf (s_iValidPicture a0 a1 a2) (s_iisKind a3)) != 0) (some [.rc [.v (.int .i8 0), .v (.int .i8 0), .fa 144 .u8 zF], .v (.int .i64 0), .v (.int .i64 (s_icodeOf (s_iValidPicture a0 a1 a2) (s_iisKind a3)))]) (Option.bind (s_ifilled_b a0 a1 a2 a0 a1 a2 a3) fun r1 => (some [.rc [.v (.int .i8 r1.1), .v (.int .i8 r1.2.1), .fa 144 .u8 r1.2.2.1], .v (.int .i64 r1.2.2.2), .v (.int .i64 0)]))) = Option.map l_iFillByKind (s_iFillByKind a0 a1 a2 a3) := by
    unfold s_iFillByKind
    exact (cond_app (Option.map l_iFillByKind) rfl (bind_app fun _ => rfl))
  rw [e, h]; rfl
noncomputable def c_iFillByKind : List A → ACall
  | [.rc [.v (.int .i8 a0), .v (.int .i8 a1), .fa 144 .u8 a2], .v (.int .i64 a3)] => ⟨(Int × Int × (Nat → Int) × Int × Int), s_iFillByKind a0 a1 a2 a3, fun r => .tup [.rc [.v (.int .i8 r.1), .v (.int .i8 r.2.1), .fa 144 .u8 r.2.2.1], .v (.int .i64 r.2.2.2.1), .v (.int .i64 r.2.2.2.2)]⟩
  | _ => ACall.fail
theorem f_iFillByKind_sound : Sound Try.prog 24 c_iFillByKind := by
  refine sound_good f_iFillByKind_ctx f_iFillByKind_LV 2 Try.func24 (c := f_iFillByKind_c) (by kernel_rfl) (rv := f_iFillByKind_rv) (by kernel_rfl) (by kernel_rfl) (by kernel_rfl) (by kernel_rfl) fun rs => ?_
  unfold c_iFillByKind
  split
  · rename_i a0 a1 a2 a3; intro v h; exact ⟨rfl, l_iFillByKind v, rfl, (f_iFillByKind_top a0 a1 a2 a3 _).trans (s_iFillByKind_ok a0 a1 a2 a3 v h)⟩
  · intro v h; cases h

/-! ### function 5: loop.example/g01322/laws.FnExactFillByKind -/
noncomputable def f_wFnExactFillByKind_c : Code := match Try.f5.body with | some c => c | none => .skip
noncomputable def f_wFnExactFillByKind_X : Ctx := ⟨TT, phiOf [(16, c_wtoPicture), (19, c_weqPicture), (23, c_sFillByKind), (24, c_iFillByKind)], noPsi⟩
def f_wFnExactFillByKind_LV : List (Nat × Keep) := []
def f_wFnExactFillByKind_rv : List ResultVar := [.tmp 4]
noncomputable def f_wFnExactFillByKind_L (r : List A) : Nat → AS → Option (List A) := L f_wFnExactFillByKind_X (cnOf f_wFnExactFillByKind_LV) f_wFnExactFillByKind_c (K0 TT f_wFnExactFillByKind_rv) r
theorem f_wFnExactFillByKind_ctx : CtxOK Try.prog f_wFnExactFillByKind_X := ctx_of tab mix ⟨⟨Try.call16, f_wtoPicture_sound⟩, ⟨Try.call19, f_weqPicture_sound⟩, ⟨Try.call23, f_sFillByKind_sound⟩, ⟨Try.call24, f_iFillByKind_sound⟩, trivial⟩
noncomputable def s_wFnExactFillByKind (a0 : Int) (a1 : Int) (a2 : (Nat → Int)) (a3 : Int) : Option Bool := (Option.bind (s_sFillByKind (s_wtoPicture a0 a1 a2).1 (s_wtoPicture a0 a1 a2).2.1 (s_wtoPicture a0 a1 a2).2.2 a3) fun r1 => (Option.bind (s_iFillByKind (s_wtoPicture a0 a1 a2).1 (s_wtoPicture a0 a1 a2).2.1 (s_wtoPicture a0 a1 a2).2.2 a3) fun r2 => (Option.bind (s_weqPicture (r2.1) (r2.2.1) (r2.2.2.1) (r1.1) (r1.2.1) (r1.2.2.1)) fun r3 => (cond (!r3) (some false) (cond (r2.2.2.2.1 != r1.2.2.2.1) (some false) (cond (r2.2.2.2.2 != r1.2.2.2.2) (some false) (some true)))))))
theorem f_wFnExactFillByKind_top (a0 : Int) (a1 : Int) (a2 : (Nat → Int)) (a3 : Int) (r : List A) : ev f_wFnExactFillByKind_X (lpc (cnOf f_wFnExactFillByKind_LV) (f_wFnExactFillByKind_L r)) f_wFnExactFillByKind_c (K0 TT f_wFnExactFillByKind_rv) (enter [.rc [.v (.int .i8 a0), .v (.int .i8 a1), .fa 144 .u8 a2], .v (.int .i64 a3)]) = (Option.bind (s_sFillByKind (s_wtoPicture a0 a1 a2).1 (s_wtoPicture a0 a1 a2).2.1 (s_wtoPicture a0 a1 a2).2.2 a3) fun r1 => (Option.bind (s_iFillByKind (s_wtoPicture a0 a1 a2).1 (s_wtoPicture a0 a1 a2).2.1 (s_wtoPicture a0 a1 a2).2.2 a3) fun r2 => (Option.bind (s_weqPicture (r2.1) (r2.2.1) (r2.2.2.1) (r1.1) (r1.2.1) (r1.2.2.1)) fun r3 => (cond (!r3) (some [.v (.bool false)]) (cond (r2.2.2.2.1 != r1.2.2.2.1) (some [.v (.bool false)]) (cond (r2.2.2.2.2 != r1.2.2.2.2) (some [.v (.bool false)]) (some [.v (.bool true)]))))))) := by kernel_rfl
noncomputable def l_wFnExactFillByKind (r : Bool) : List A := [.v (.bool r)]
theorem s_wFnExactFillByKind_ok (a0 : Int) (a1 : Int) (a2 : (Nat → Int)) (a3 : Int) (v : Bool) (h : s_wFnExactFillByKind a0 a1 a2 a3 = some v) : (Option.bind (s_sFillByKind (s_wtoPicture a0 a1 a2).1 (s_wtoPicture a0 a1 a2).2.1 (s_wtoPicture a0 a1 a2).2.2 a3) fun r1 => (Option.bind (s_iFillByKind (s_wtoPicture a0 a1 a2).1 (s_wtoPicture a0 a1 a2).2.1 (s_wtoPicture a0 a1 a2).2.2 a3) fun r2 => (Option.bind (s_weqPicture (r2.1) (r2.2.1) (r2.2.2.1) (r1.1) (r1.2.1) (r1.2.2.1)) fun r3 => (cond (!r3) (some [.v (.bool false)]) (cond (r2.2.2.2.1 != r1.2.2.2.1) (some [.v (.bool false)]) (cond (r2.2.2.2.2 != r1.2.2.2.2) (some [.v (.bool false)]) (some [.v (.bool true)]))))))) = some (l_wFnExactFillByKind v) := by
  have e : (Option.bind (s_sFillByKind (s_wtoPicture a0 a1 a2).1 (s_wtoPicture a0 a1 a2).2.1 (s_wtoPicture a0 a1 a2).2.2 a3) fun r1 => (Option.bind (s_iFillByKind (s_wtoPicture a0 a1 a2).1 (s_wtoPicture a0 a1 a2).2.1 (s_wtoPicture a0 a1 a2).2.2 a3) fun r2 => (Option.bind (s_weqPicture (r2.1) (r2.2.1) (r2.2.2.1) (r1.1) (r1.2.1) (r1.2.2.1)) fun r3 => (cond (!r3) (some [.v (.bool false)]) (cond (r2.2.2.2.1 != r1.2.2.2.1) (some [.v (.bool false)]) (cond (r2.2.2.2.2 != r1.2.2.2.2) (some [.v (.bool false)]) (some [.v (.bool true)]))))))) = Option.map l_wFnExactFillByKind (s_wFnExactFillByKind a0 a1 a2 a3) := by
    unfold s_wFnExactFillByKind
    exact (bind_app fun _ => (bind_app fun _ => (bind_app fun _ => (cond_app (Option.map l_wFnExactFillByKind) rfl (cond_app (Option.map l_wFnExactFillByKind) rfl (cond_app (Option.map l_wFnExactFillByKind) rfl rfl))))))
  rw [e, h]; rfl
noncomputable def c_wFnExactFillByKind : List A → ACall
  | [.rc [.v (.int .i8 a0), .v (.int .i8 a1), .fa 144 .u8 a2], .v (.int .i64 a3)] => ⟨Bool, s_wFnExactFillByKind a0 a1 a2 a3, fun r => .one (.v (.bool r))⟩
  | _ => ACall.fail
theorem f_wFnExactFillByKind_sound : Sound Try.prog 5 c_wFnExactFillByKind := by
  refine sound_good f_wFnExactFillByKind_ctx f_wFnExactFillByKind_LV 2 Try.func5 (c := f_wFnExactFillByKind_c) (by kernel_rfl) (rv := f_wFnExactFillByKind_rv) (by kernel_rfl) (by kernel_rfl) (by kernel_rfl) (by kernel_rfl) fun rs => ?_
  unfold c_wFnExactFillByKind
  split
  · rename_i a0 a1 a2 a3; intro v h; exact ⟨rfl, l_wFnExactFillByKind v, rfl, (f_wFnExactFillByKind_top a0 a1 a2 a3 _).trans (s_wFnExactFillByKind_ok a0 a1 a2 a3 v h)⟩
  · intro v h; cases h

/-! ### function 91: loop.example/g01322/spec.l06Periods -/
noncomputable def f_sl06Periods_c : Code := match Try.f91.body with | some c => c | none => .skip
noncomputable def f_sl06Periods_X : Ctx := ⟨TT, phiOf [(56, c_sl01Ok), (86, c_sl00In)], noPsi⟩
def f_sl06Periods_LV : List (Nat × Keep) := []
def f_sl06Periods_rv : List ResultVar := [.tmp 6]
noncomputable def f_sl06Periods_L (r : List A) : Nat → AS → Option (List A) := L f_sl06Periods_X (cnOf f_sl06Periods_LV) f_sl06Periods_c (K0 TT f_sl06Periods_rv) r
theorem f_sl06Periods_ctx : CtxOK Try.prog f_sl06Periods_X := ctx_of tab mix ⟨⟨Try.call56, f_sl01Ok_sound⟩, ⟨Try.call86, f_sl00In_sound⟩, trivial⟩
noncomputable def s_sl06Periods (a0 : Int) (a1 : Int) (a2 : (Nat → Int)) (a3 : Int) (a4 : Int) : Int := (cond (!(s_sl01Ok a0 a1 a2)) 1 (cond (!(s_sl00In a3 1 (IntKind.wrap .i64 a0))) 2 (cond (!(s_sl00In a4 1 (IntKind.wrap .i64 a1))) 2 0)))
theorem f_sl06Periods_top (a0 : Int) (a1 : Int) (a2 : (Nat → Int)) (a3 : Int) (a4 : Int) (r : List A) : ev f_sl06Periods_X (lpc (cnOf f_sl06Periods_LV) (f_sl06Periods_L r)) f_sl06Periods_c (K0 TT f_sl06Periods_rv) (enter [.ref (.rc [.v (.int .i8 a0), .v (.int .i8 a1), .fa 144 .u8 a2]), .v (.int .i64 a3), .v (.int .i64 a4)]) = (cond (!(s_sl01Ok a0 a1 a2)) (some [.v (.int .i64 1)]) (cond (!(s_sl00In a3 1 (IntKind.wrap .i64 a0))) (some [.v (.int .i64 2)]) (cond (!(s_sl00In a4 1 (IntKind.wrap .i64 a1))) (some [.v (.int .i64 2)]) (some [.v (.int .i64 0)])))) := by kernel_rfl
noncomputable def l_sl06Periods (r : Int) : List A := [.v (.int .i64 r)]
theorem s_sl06Periods_ok (a0 : Int) (a1 : Int) (a2 : (Nat → Int)) (a3 : Int) (a4 : Int) : (cond (!(s_sl01Ok a0 a1 a2)) (some [.v (.int .i64 1)]) (cond (!(s_sl00In a3 1 (IntKind.wrap .i64 a0))) (some [.v (.int .i64 2)]) (cond (!(s_sl00In a4 1 (IntKind.wrap .i64 a1))) (some [.v (.int .i64 2)]) (some [.v (.int .i64 0)])))) = some (l_sl06Periods (s_sl06Periods a0 a1 a2 a3 a4)) := by
  unfold s_sl06Periods
  exact (cond_app (fun x => some (l_sl06Periods x)) rfl (cond_app (fun x => some (l_sl06Periods x)) rfl (cond_app (fun x => some (l_sl06Periods x)) rfl rfl)))
noncomputable def c_sl06Periods : List A → ACall
  | [.ref (.rc [.v (.int .i8 a0), .v (.int .i8 a1), .fa 144 .u8 a2]), .v (.int .i64 a3), .v (.int .i64 a4)] => ⟨Int, some (s_sl06Periods a0 a1 a2 a3 a4), fun r => .one (.v (.int .i64 r))⟩
  | _ => ACall.fail
theorem f_sl06Periods_sound : Sound Try.prog 91 c_sl06Periods := by
  refine sound_good f_sl06Periods_ctx f_sl06Periods_LV 3 Try.func91 (c := f_sl06Periods_c) (by kernel_rfl) (rv := f_sl06Periods_rv) (by kernel_rfl) (by kernel_rfl) (by kernel_rfl) (by kernel_rfl) fun rs => ?_
  unfold c_sl06Periods
  split
  · rename_i a0 a1 a2 a3 a4; intro v h; cases h; exact ⟨rfl, l_sl06Periods (s_sl06Periods a0 a1 a2 a3 a4), rfl, (f_sl06Periods_top a0 a1 a2 a3 a4 _).trans (s_sl06Periods_ok a0 a1 a2 a3 a4)⟩
  · intro v h; cases h

/-! ### function 93: loop.example/g01322/spec.l06Alike -/
noncomputable def f_sl06Alike_c : Code := match Try.f93.body with | some c => c | none => .skip
noncomputable def f_sl06Alike_X : Ctx := ⟨TT, phiOf [], noPsi⟩
def f_sl06Alike_LV : List (Nat × Keep) := []
def f_sl06Alike_rv : List ResultVar := [.tmp 8]
noncomputable def f_sl06Alike_L (r : List A) : Nat → AS → Option (List A) := L f_sl06Alike_X (cnOf f_sl06Alike_LV) f_sl06Alike_c (K0 TT f_sl06Alike_rv) r
theorem f_sl06Alike_ctx : CtxOK Try.prog f_sl06Alike_X := ctx_of tab mix trivial
noncomputable def s_sl06Alike (a0 : Int) (a1 : Int) (a2 : Int) (a3 : Int) : Option Bool := (cond (decide (a2 = 0)) none (cond (decide (a2 = 0)) none (cond ((Int.tmod (Int.tmod a0 12) a2) == (Int.tmod (Int.tmod a1 12) a2)) (cond (decide (a3 = 0)) none (cond (decide (a3 = 0)) none (some ((Int.tmod (IntKind.wrap .i64 (Int.tdiv a0 12)) a3) == (Int.tmod (IntKind.wrap .i64 (Int.tdiv a1 12)) a3))))) (some false))))
theorem f_sl06Alike_top (a0 : Int) (a1 : Int) (a2 : Int) (a3 : Int) (r : List A) : ev f_sl06Alike_X (lpc (cnOf f_sl06Alike_LV) (f_sl06Alike_L r)) f_sl06Alike_c (K0 TT f_sl06Alike_rv) (enter [.v (.int .i64 a0), .v (.int .i64 a1), .v (.int .i64 a2), .v (.int .i64 a3)]) = (cond (decide (a2 = 0)) none (cond (decide (a2 = 0)) none (cond ((Int.tmod (Int.tmod a0 12) a2) == (Int.tmod (Int.tmod a1 12) a2)) (cond (decide (a3 = 0)) none (cond (decide (a3 = 0)) none (some [.v (.bool ((Int.tmod (IntKind.wrap .i64 (Int.tdiv a0 12)) a3) == (Int.tmod (IntKind.wrap .i64 (Int.tdiv a1 12)) a3)))]))) (some [.v (.bool false)])))) := by kernel_rfl
noncomputable def l_sl06Alike (r : Bool) : List A := [.v (.bool r)]
theorem s_sl06Alike_ok (a0 : Int) (a1 : Int) (a2 : Int) (a3 : Int) (v : Bool) (h : s_sl06Alike a0 a1 a2 a3 = some v) : (cond (decide (a2 = 0)) none (cond (decide (a2 = 0)) none (cond ((Int.tmod (Int.tmod a0 12) a2) == (Int.tmod (Int.tmod a1 12) a2)) (cond (decide (a3 = 0)) none (cond (decide (a3 = 0)) none (some [.v (.bool ((Int.tmod (IntKind.wrap .i64 (Int.tdiv a0 12)) a3) == (Int.tmod (IntKind.wrap .i64 (Int.tdiv a1 12)) a3)))]))) (some [.v (.bool false)])))) = some (l_sl06Alike v) := by
  have e : (cond (decide (a2 = 0)) none (cond (decide (a2 = 0)) none (cond ((Int.tmod (Int.tmod a0 12) a2) == (Int.tmod (Int.tmod a1 12) a2)) (cond (decide (a3 = 0)) none (cond (decide (a3 = 0)) none (some [.v (.bool ((Int.tmod (IntKind.wrap .i64 (Int.tdiv a0 12)) a3) == (Int.tmod (IntKind.wrap .i64 (Int.tdiv a1 12)) a3)))]))) (some [.v (.bool false)])))) = Option.map l_sl06Alike (s_sl06Alike a0 a1 a2 a3) := by
    unfold s_sl06Alike
    exact (cond_app (Option.map l_sl06Alike) rfl (cond_app (Option.map l_sl06Alike) rfl (cond_app (Option.map l_sl06Alike) (cond_app (Option.map l_sl06Alike) rfl (cond_app (Option.map l_sl06Alike) rfl rfl)) rfl)))
  rw [e, h]; rfl
noncomputable def c_sl06Alike : List A → ACall
  | [.v (.int .i64 a0), .v (.int .i64 a1), .v (.int .i64 a2), .v (.int .i64 a3)] => ⟨Bool, s_sl06Alike a0 a1 a2 a3, fun r => .one (.v (.bool r))⟩
  | _ => ACall.fail
theorem f_sl06Alike_sound : Sound Try.prog 93 c_sl06Alike := by
  refine sound_good f_sl06Alike_ctx f_sl06Alike_LV 4 Try.func93 (c := f_sl06Alike_c) (by kernel_rfl) (rv := f_sl06Alike_rv) (by kernel_rfl) (by kernel_rfl) (by kernel_rfl) (by kernel_rfl) fun rs => ?_
  unfold c_sl06Alike
  split
  · rename_i a0 a1 a2 a3; intro v h; exact ⟨rfl, l_sl06Alike v, rfl, (f_sl06Alike_top a0 a1 a2 a3 _).trans (s_sl06Alike_ok a0 a1 a2 a3 v h)⟩
  · intro v h; cases h

/-! ### function 92: loop.example/g01322/spec.l06Conflict -/
noncomputable def f_sl06Conflict_c : Code := match Try.f92.body with | some c => c | none => .skip
noncomputable def f_sl06Conflict_X : Ctx := ⟨TT, phiOf [(93, c_sl06Alike)], noPsi⟩
def f_sl06Conflict_LV : List (Nat × Keep) := [(2, ([0, 1, 2, 8], [], [])), (5, ([0, 1, 2, 8, 9], [], []))]
def f_sl06Conflict_rv : List ResultVar := [.tmp 6, .tmp 7]
noncomputable def f_sl06Conflict_L (r : List A) : Nat → AS → Option (List A) := L f_sl06Conflict_X (cnOf f_sl06Conflict_LV) f_sl06Conflict_c (K0 TT f_sl06Conflict_rv) r
theorem f_sl06Conflict_ctx : CtxOK Try.prog f_sl06Conflict_X := ctx_of tab mix ⟨⟨Try.call93, f_sl06Alike_sound⟩, trivial⟩
noncomputable def f_sl06Conflict_s2 (x0 : Int) (x1 : Int) (x2 : Int) (x3 : Int) (x4 : Int) (x5 : (Nat → Int)) : AS := ⟨[(0, .a (.ptr 0 [] (0))), (1, .a (.v (.int .i64 x0))), (2, .a (.v (.int .i64 x1))), (8, .a (.v (.int .i64 x2)))], [(0, some ⟨false, .box (.rc [.v (.int .i8 x3), .v (.int .i8 x4), .fa 144 .u8 x5])⟩)], 1⟩
noncomputable def f_sl06Conflict_s5 (x0 : Int) (x1 : Int) (x2 : Int) (x3 : Int) (x4 : Int) (x5 : Int) (x6 : (Nat → Int)) : AS := ⟨[(0, .a (.ptr 0 [] (0))), (1, .a (.v (.int .i64 x0))), (2, .a (.v (.int .i64 x1))), (8, .a (.v (.int .i64 x2))), (9, .a (.v (.int .i64 x3)))], [(0, some ⟨false, .box (.rc [.v (.int .i8 x4), .v (.int .i8 x5), .fa 144 .u8 x6])⟩)], 1⟩
noncomputable def l_sl06Conflict (r : (Int × Int)) : List A := [.v (.int .i64 r.1), .v (.int .i64 r.2)]
theorem f_sl06Conflict_step5 (x0 : Int) (x1 : Int) (x2 : Int) (x3 : Int) (x4 : Int) (x5 : Int) (x6 : (Nat → Int)) (r : List A) (h : (cond (decide (x3 < 144)) (cond (inB x2 144) (cond ((x6 (Int.toNat x2)) != 0) (cond (inB x3 144) (cond ((x6 (Int.toNat x3)) != 0) (cond (inB x3 144) (cond (inB x2 144) (cond ((x6 (Int.toNat x3)) != (x6 (Int.toNat x2))) (Option.bind (s_sl06Alike x2 x3 x0 x1) fun r1 => (cond r1 (some [.v (.int .i64 x2), .v (.int .i64 x3)]) (f_sl06Conflict_L r 5 (f_sl06Conflict_s5 x0 x1 x2 (IntKind.wrap .i64 (x3 + 1)) x4 x5 x6)))) (f_sl06Conflict_L r 5 (f_sl06Conflict_s5 x0 x1 x2 (IntKind.wrap .i64 (x3 + 1)) x4 x5 x6))) none) none) (f_sl06Conflict_L r 5 (f_sl06Conflict_s5 x0 x1 x2 (IntKind.wrap .i64 (x3 + 1)) x4 x5 x6))) none) (f_sl06Conflict_L r 2 (f_sl06Conflict_s2 x0 x1 (IntKind.wrap .i64 (x2 + 1)) x4 x5 x6))) none) (f_sl06Conflict_L r 2 (f_sl06Conflict_s2 x0 x1 (IntKind.wrap .i64 (x2 + 1)) x4 x5 x6))) = some r) : f_sl06Conflict_L r 5 (f_sl06Conflict_s5 x0 x1 x2 x3 x4 x5 x6) = some r :=
  step_of' h (by kernel_rfl)
noncomputable def f_sl06Conflict_n5 (x0 : Int) (x1 : Int) (x2 : Int) (x3 : Int) (x4 : Int) (x5 : Int) (x6 : (Nat → Int)) : Option ((Int × Int × Int × Int × Int × Int × (Nat → Int)) ⊕ ((Int × Int × Int × Int × Int × (Nat → Int)) ⊕ (Int × Int))) := (cond (decide (x3 < 144)) (cond (inB x2 144) (cond ((x6 (Int.toNat x2)) != 0) (cond (inB x3 144) (cond ((x6 (Int.toNat x3)) != 0) (cond (inB x3 144) (cond (inB x2 144) (cond ((x6 (Int.toNat x3)) != (x6 (Int.toNat x2))) (Option.bind (s_sl06Alike x2 x3 x0 x1) fun r1 => (cond r1 (some (Sum.inr (Sum.inr (x2, x3)))) (some (Sum.inl (x0, x1, x2, (IntKind.wrap .i64 (x3 + 1)), x4, x5, x6))))) (some (Sum.inl (x0, x1, x2, (IntKind.wrap .i64 (x3 + 1)), x4, x5, x6)))) none) none) (some (Sum.inl (x0, x1, x2, (IntKind.wrap .i64 (x3 + 1)), x4, x5, x6)))) none) (some (Sum.inr (Sum.inl (x0, x1, (IntKind.wrap .i64 (x2 + 1)), x4, x5, x6))))) none) (some (Sum.inr (Sum.inl (x0, x1, (IntKind.wrap .i64 (x2 + 1)), x4, x5, x6)))))
noncomputable def f_sl06Conflict_run5 (x : (Int × Int × Int × Int × Int × Int × (Nat → Int))) : Option ((Int × Int × Int × Int × Int × (Nat → Int)) ⊕ (Int × Int)) := iter (fun x => f_sl06Conflict_n5 x.1 x.2.1 x.2.2.1 x.2.2.2.1 x.2.2.2.2.1 x.2.2.2.2.2.1 x.2.2.2.2.2.2) FU x
noncomputable def f_sl06Conflict_G5 (r : List A) (x : (Int × Int × Int × Int × Int × Int × (Nat → Int))) : Prop := f_sl06Conflict_L r 5 (f_sl06Conflict_s5 x.1 x.2.1 x.2.2.1 x.2.2.2.1 x.2.2.2.2.1 x.2.2.2.2.2.1 x.2.2.2.2.2.2) = some r
theorem f_sl06Conflict_step2 (x0 : Int) (x1 : Int) (x2 : Int) (x3 : Int) (x4 : Int) (x5 : (Nat → Int)) (r : List A) (h : (cond (decide (x2 < 144)) (f_sl06Conflict_L r 5 (f_sl06Conflict_s5 x0 x1 x2 (IntKind.wrap .i64 (x2 + 1)) x3 x4 x5)) (some [.v (.int .i64 (-1)), .v (.int .i64 (-1))])) = some r) : f_sl06Conflict_L r 2 (f_sl06Conflict_s2 x0 x1 x2 x3 x4 x5) = some r :=
  step_of' h (by kernel_rfl)
noncomputable def f_sl06Conflict_n2 (x0 : Int) (x1 : Int) (x2 : Int) (x3 : Int) (x4 : Int) (x5 : (Nat → Int)) : Option ((Int × Int × Int × Int × Int × (Nat → Int)) ⊕ (Int × Int)) := (cond (decide (x2 < 144)) (f_sl06Conflict_run5 (x0, x1, x2, (IntKind.wrap .i64 (x2 + 1)), x3, x4, x5)) (some (Sum.inr ((-1), (-1)))))
noncomputable def f_sl06Conflict_run2 (x : (Int × Int × Int × Int × Int × (Nat → Int))) : Option (Int × Int) := iter (fun x => f_sl06Conflict_n2 x.1 x.2.1 x.2.2.1 x.2.2.2.1 x.2.2.2.2.1 x.2.2.2.2.2) FU x
noncomputable def f_sl06Conflict_G2 (r : List A) (x : (Int × Int × Int × Int × Int × (Nat → Int))) : Prop := f_sl06Conflict_L r 2 (f_sl06Conflict_s2 x.1 x.2.1 x.2.2.1 x.2.2.2.1 x.2.2.2.2.1 x.2.2.2.2.2) = some r
noncomputable def f_sl06Conflict_S2 (r : List A) : (Int × Int) → Prop := fun v => r = l_sl06Conflict v
noncomputable def f_sl06Conflict_S5 (r : List A) : ((Int × Int × Int × Int × Int × (Nat → Int)) ⊕ (Int × Int)) → Prop := goesOn (f_sl06Conflict_G2 r) (f_sl06Conflict_S2 r)
theorem f_sl06Conflict_go5 (r : List A) : ∀ x, sem (f_sl06Conflict_S5 r) (f_sl06Conflict_run5 x) → f_sl06Conflict_G5 r x :=
  fun x => iter_sound (step := fun x => f_sl06Conflict_n5 x.1 x.2.1 x.2.2.1 x.2.2.2.1 x.2.2.2.2.1 x.2.2.2.2.2.1 x.2.2.2.2.2.2) (fun x h => by
    unfold f_sl06Conflict_n5 at h
    exact f_sl06Conflict_step5 x.1 x.2.1 x.2.2.1 x.2.2.2.1 x.2.2.2.2.1 x.2.2.2.2.2.1 x.2.2.2.2.2.2 r ((sem_cond h (fun h => (sem_cond h (fun h => (sem_cond h (fun h => (sem_cond h (fun h => (sem_cond h (fun h => (sem_cond h (fun h => (sem_cond h (fun h => (sem_cond h (fun h => (sem_bind h fun r1 h => (sem_cond h (fun h => sem_got h fun q => some_eq q) (fun h => sem_got h fun q => q)))) (fun h => sem_got h fun q => q))) (fun h => sem_none h))) (fun h => sem_none h))) (fun h => sem_got h fun q => q))) (fun h => sem_none h))) (fun h => sem_got h fun q => q))) (fun h => sem_none h))) (fun h => sem_got h fun q => q)))) FU x
theorem f_sl06Conflict_go2 (r : List A) : ∀ x, sem (f_sl06Conflict_S2 r) (f_sl06Conflict_run2 x) → f_sl06Conflict_G2 r x :=
  fun x => iter_sound (step := fun x => f_sl06Conflict_n2 x.1 x.2.1 x.2.2.1 x.2.2.2.1 x.2.2.2.2.1 x.2.2.2.2.2) (fun x h => by
    unfold f_sl06Conflict_n2 at h
    exact f_sl06Conflict_step2 x.1 x.2.1 x.2.2.1 x.2.2.2.1 x.2.2.2.2.1 x.2.2.2.2.2 r ((sem_cond h (fun h => f_sl06Conflict_go5 r _ h) (fun h => sem_got h fun q => some_eq q)))) FU x
noncomputable def s_sl06Conflict (a0 : Int) (a1 : Int) (a2 : (Nat → Int)) (a3 : Int) (a4 : Int) : Option (Int × Int) := (f_sl06Conflict_run2 (a3, a4, 0, a0, a1, a2))
theorem f_sl06Conflict_top (a0 : Int) (a1 : Int) (a2 : (Nat → Int)) (a3 : Int) (a4 : Int) (r : List A) : ev f_sl06Conflict_X (lpc (cnOf f_sl06Conflict_LV) (f_sl06Conflict_L r)) f_sl06Conflict_c (K0 TT f_sl06Conflict_rv) (enter [.ref (.rc [.v (.int .i8 a0), .v (.int .i8 a1), .fa 144 .u8 a2]), .v (.int .i64 a3), .v (.int .i64 a4)]) = (f_sl06Conflict_L r 2 (f_sl06Conflict_s2 a3 a4 0 a0 a1 a2)) := by kernel_rfl
theorem s_sl06Conflict_ok (a0 : Int) (a1 : Int) (a2 : (Nat → Int)) (a3 : Int) (a4 : Int) (v : (Int × Int)) (h : s_sl06Conflict a0 a1 a2 a3 a4 = some v) : (f_sl06Conflict_L (l_sl06Conflict v) 2 (f_sl06Conflict_s2 a3 a4 0 a0 a1 a2)) = some (l_sl06Conflict v) := by
  unfold s_sl06Conflict at h
  have go : ∀ r, sem (fun v => r = l_sl06Conflict v) ((f_sl06Conflict_run2 (a3, a4, 0, a0, a1, a2))) → (f_sl06Conflict_L r 2 (f_sl06Conflict_s2 a3 a4 0 a0 a1 a2)) = some r := fun r h => f_sl06Conflict_go2 r _ h
  exact go (l_sl06Conflict v) ⟨v, h, rfl⟩
noncomputable def c_sl06Conflict : List A → ACall
  | [.ref (.rc [.v (.int .i8 a0), .v (.int .i8 a1), .fa 144 .u8 a2]), .v (.int .i64 a3), .v (.int .i64 a4)] => ⟨(Int × Int), s_sl06Conflict a0 a1 a2 a3 a4, fun r => .tup [.v (.int .i64 r.1), .v (.int .i64 r.2)]⟩
  | _ => ACall.fail
theorem f_sl06Conflict_sound : Sound Try.prog 92 c_sl06Conflict := by
  refine sound_good f_sl06Conflict_ctx f_sl06Conflict_LV 3 Try.func92 (c := f_sl06Conflict_c) (by kernel_rfl) (rv := f_sl06Conflict_rv) (by kernel_rfl) (by kernel_rfl) (by kernel_rfl) (by kernel_rfl) fun rs => ?_
  unfold c_sl06Conflict
  split
  · rename_i a0 a1 a2 a3 a4; intro v h; exact ⟨rfl, l_sl06Conflict v, rfl, (f_sl06Conflict_top a0 a1 a2 a3 a4 _).trans (s_sl06Conflict_ok a0 a1 a2 a3 a4 v h)⟩
  · intro v h; cases h

/-! ### function 48: loop.example/g01322/spec.FillByPeriods -/
noncomputable def f_sFillByPeriods_c : Code := match Try.f48.body with | some c => c | none => .skip
noncomputable def f_sFillByPeriods_X : Ctx := ⟨TT, phiOf [(70, c_sl06Lost), (91, c_sl06Periods), (92, c_sl06Conflict), (93, c_sl06Alike)], noPsi⟩
def f_sFillByPeriods_LV : List (Nat × Keep) := [(11, ([1, 2, 3, 6, 12, 13, 14, 15], [], [])), (14, ([1, 2, 3, 6, 12, 13, 14, 15, 16], [], []))]
def f_sFillByPeriods_rv : List ResultVar := [.cell 6 27, .tmp 7, .tmp 8]
noncomputable def f_sFillByPeriods_L (r : List A) : Nat → AS → Option (List A) := L f_sFillByPeriods_X (cnOf f_sFillByPeriods_LV) f_sFillByPeriods_c (K0 TT f_sFillByPeriods_rv) r
theorem f_sFillByPeriods_ctx : CtxOK Try.prog f_sFillByPeriods_X := ctx_of tab mix ⟨⟨Try.call70, f_sl06Lost_sound⟩, ⟨Try.call91, f_sl06Periods_sound⟩, ⟨Try.call92, f_sl06Conflict_sound⟩, ⟨Try.call93, f_sl06Alike_sound⟩, trivial⟩
noncomputable def f_sFillByPeriods_s11 (x0 : Int) (x1 : Int) (x2 : Int) (x3 : Int) (x4 : Int) (x5 : Int) (x6 : (Nat → Int)) (x7 : Int) (x8 : Int) (x9 : (Nat → Int)) (x10 : Int) (x11 : Int) (x12 : (Nat → Int)) (x13 : (List Int)) : AS := ⟨[(1, .a (.v (.int .i64 x0))), (2, .a (.v (.int .i64 x1))), (3, .a (.ptr 0 [] (0))), (6, .a (.ptr 1 [] (0))), (12, .a (.ptr 2 [] (0))), (13, .a (.v (.int .i64 x2))), (14, .a (.sl 3)), (15, .a (.v (.int .i64 x3)))], [(0, some ⟨true, .box (.rc [.v (.int .i8 x4), .v (.int .i8 x5), .fa 144 .u8 x6])⟩), (1, some ⟨true, .box (.rc [.v (.int .i8 x7), .v (.int .i8 x8), .fa 144 .u8 x9])⟩), (2, some ⟨true, .box (.rc [.v (.int .i8 x10), .v (.int .i8 x11), .fa 144 .u8 x12])⟩), (3, some ⟨true, .arr (.one (.i .i64)) x13⟩)], 4⟩
noncomputable def f_sFillByPeriods_s14 (x0 : Int) (x1 : Int) (x2 : Int) (x3 : Int) (x4 : Int) (x5 : Int) (x6 : Int) (x7 : (Nat → Int)) (x8 : Int) (x9 : Int) (x10 : (Nat → Int)) (x11 : Int) (x12 : Int) (x13 : (Nat → Int)) (x14 : (List Int)) : AS := ⟨[(1, .a (.v (.int .i64 x0))), (2, .a (.v (.int .i64 x1))), (3, .a (.ptr 0 [] (0))), (6, .a (.ptr 1 [] (0))), (12, .a (.ptr 2 [] (0))), (13, .a (.v (.int .i64 x2))), (14, .a (.sl 3)), (15, .a (.v (.int .i64 x3))), (16, .a (.v (.int .i64 x4)))], [(0, some ⟨true, .box (.rc [.v (.int .i8 x5), .v (.int .i8 x6), .fa 144 .u8 x7])⟩), (1, some ⟨true, .box (.rc [.v (.int .i8 x8), .v (.int .i8 x9), .fa 144 .u8 x10])⟩), (2, some ⟨true, .box (.rc [.v (.int .i8 x11), .v (.int .i8 x12), .fa 144 .u8 x13])⟩), (3, some ⟨true, .arr (.one (.i .i64)) x14⟩)], 4⟩
noncomputable def l_sFillByPeriods (r : (Int × Int × (Nat → Int) × Int × Int)) : List A := [.rc [.v (.int .i8 r.1), .v (.int .i8 r.2.1), .fa 144 .u8 r.2.2.1], .v (.int .i64 r.2.2.2.1), .v (.int .i64 r.2.2.2.2)]
theorem f_sFillByPeriods_step14 (x0 : Int) (x1 : Int) (x2 : Int) (x3 : Int) (x4 : Int) (x5 : Int) (x6 : Int) (x7 : (Nat → Int)) (x8 : Int) (x9 : Int) (x10 : (Nat → Int)) (x11 : Int) (x12 : Int) (x13 : (Nat → Int)) (x14 : (List Int)) (r : List A) (h : (cond (decide (x4 < 144)) (cond (inB x4 144) (cond ((x7 (Int.toNat x4)) != 0) (cond (inB x3 (List.length x14)) (Option.bind (s_sl06Alike (List.getD x14 (Int.toNat x3) 0) x4 x0 x1) fun r3 => (cond r3 (cond (inB x3 (List.length x14)) (cond (inB x4 144) (cond (inB (List.getD x14 (Int.toNat x3) 0) 144) (f_sFillByPeriods_L r 11 (f_sFillByPeriods_s11 x0 x1 (IntKind.wrap .i64 (x2 + 1)) (IntKind.wrap .i64 (x3 + 1)) x5 x6 x7 x8 x9 x10 x11 x12 (upd x13 (Int.toNat (List.getD x14 (Int.toNat x3) 0)) (x7 (Int.toNat x4))) x14)) none) none) none) (f_sFillByPeriods_L r 14 (f_sFillByPeriods_s14 x0 x1 x2 x3 (IntKind.wrap .i64 (x4 + 1)) x5 x6 x7 x8 x9 x10 x11 x12 x13 x14)))) none) (f_sFillByPeriods_L r 14 (f_sFillByPeriods_s14 x0 x1 x2 x3 (IntKind.wrap .i64 (x4 + 1)) x5 x6 x7 x8 x9 x10 x11 x12 x13 x14))) none) (f_sFillByPeriods_L r 11 (f_sFillByPeriods_s11 x0 x1 x2 (IntKind.wrap .i64 (x3 + 1)) x5 x6 x7 x8 x9 x10 x11 x12 x13 x14))) = some r) : f_sFillByPeriods_L r 14 (f_sFillByPeriods_s14 x0 x1 x2 x3 x4 x5 x6 x7 x8 x9 x10 x11 x12 x13 x14) = some r :=
  step_of' h (by kernel_rfl)
noncomputable def f_sFillByPeriods_n14 (x0 : Int) (x1 : Int) (x2 : Int) (x3 : Int) (x4 : Int) (x5 : Int) (x6 : Int) (x7 : (Nat → Int)) (x8 : Int) (x9 : Int) (x10 : (Nat → Int)) (x11 : Int) (x12 : Int) (x13 : (Nat → Int)) (x14 : (List Int)) : Option ((Int × Int × Int × Int × Int × Int × Int × (Nat → Int) × Int × Int × (Nat → Int) × Int × Int × (Nat → Int) × (List Int)) ⊕ ((Int × Int × Int × Int × Int × Int × (Nat → Int) × Int × Int × (Nat → Int) × Int × Int × (Nat → Int) × (List Int)) ⊕ (Int × Int × (Nat → Int) × Int × Int))) := (cond (decide (x4 < 144)) (cond (inB x4 144) (cond ((x7 (Int.toNat x4)) != 0) (cond (inB x3 (List.length x14)) (Option.bind (s_sl06Alike (List.getD x14 (Int.toNat x3) 0) x4 x0 x1) fun r3 => (cond r3 (cond (inB x3 (List.length x14)) (cond (inB x4 144) (cond (inB (List.getD x14 (Int.toNat x3) 0) 144) (some (Sum.inr (Sum.inl (x0, x1, (IntKind.wrap .i64 (x2 + 1)), (IntKind.wrap .i64 (x3 + 1)), x5, x6, x7, x8, x9, x10, x11, x12, (upd x13 (Int.toNat (List.getD x14 (Int.toNat x3) 0)) (x7 (Int.toNat x4))), x14)))) none) none) none) (some (Sum.inl (x0, x1, x2, x3, (IntKind.wrap .i64 (x4 + 1)), x5, x6, x7, x8, x9, x10, x11, x12, x13, x14))))) none) (some (Sum.inl (x0, x1, x2, x3, (IntKind.wrap .i64 (x4 + 1)), x5, x6, x7, x8, x9, x10, x11, x12, x13, x14)))) none) (some (Sum.inr (Sum.inl (x0, x1, x2, (IntKind.wrap .i64 (x3 + 1)), x5, x6, x7, x8, x9, x10, x11, x12, x13, x14)))))
noncomputable def f_sFillByPeriods_run14 (x : (Int × Int × Int × Int × Int × Int × Int × (Nat → Int) × Int × Int × (Nat → Int) × Int × Int × (Nat → Int) × (List Int))) : Option ((Int × Int × Int × Int × Int × Int × (Nat → Int) × Int × Int × (Nat → Int) × Int × Int × (Nat → Int) × (List Int)) ⊕ (Int × Int × (Nat → Int) × Int × Int)) := iter (fun x => f_sFillByPeriods_n14 x.1 x.2.1 x.2.2.1 x.2.2.2.1 x.2.2.2.2.1 x.2.2.2.2.2.1 x.2.2.2.2.2.2.1 x.2.2.2.2.2.2.2.1 x.2.2.2.2.2.2.2.2.1 x.2.2.2.2.2.2.2.2.2.1 x.2.2.2.2.2.2.2.2.2.2.1 x.2.2.2.2.2.2.2.2.2.2.2.1 x.2.2.2.2.2.2.2.2.2.2.2.2.1 x.2.2.2.2.2.2.2.2.2.2.2.2.2.1 x.2.2.2.2.2.2.2.2.2.2.2.2.2.2) FU x
noncomputable def f_sFillByPeriods_G14 (r : List A) (x : (Int × Int × Int × Int × Int × Int × Int × (Nat → Int) × Int × Int × (Nat → Int) × Int × Int × (Nat → Int) × (List Int))) : Prop := f_sFillByPeriods_L r 14 (f_sFillByPeriods_s14 x.1 x.2.1 x.2.2.1 x.2.2.2.1 x.2.2.2.2.1 x.2.2.2.2.2.1 x.2.2.2.2.2.2.1 x.2.2.2.2.2.2.2.1 x.2.2.2.2.2.2.2.2.1 x.2.2.2.2.2.2.2.2.2.1 x.2.2.2.2.2.2.2.2.2.2.1 x.2.2.2.2.2.2.2.2.2.2.2.1 x.2.2.2.2.2.2.2.2.2.2.2.2.1 x.2.2.2.2.2.2.2.2.2.2.2.2.2.1 x.2.2.2.2.2.2.2.2.2.2.2.2.2.2) = some r
theorem f_sFillByPeriods_step11 (x0 : Int) (x1 : Int) (x2 : Int) (x3 : Int) (x4 : Int) (x5 : Int) (x6 : (Nat → Int)) (x7 : Int) (x8 : Int) (x9 : (Nat → Int)) (x10 : Int) (x11 : Int) (x12 : (Nat → Int)) (x13 : (List Int)) (r : List A) (h : (cond (decide (x3 < ((List.length x13 : Nat) : Int))) (f_sFillByPeriods_L r 14 (f_sFillByPeriods_s14 x0 x1 x2 x3 0 x4 x5 x6 x7 x8 x9 x10 x11 x12 x13)) (some [.rc [.v (.int .i8 x10), .v (.int .i8 x11), .fa 144 .u8 x12], .v (.int .i64 x2), .v (.int .i64 0)])) = some r) : f_sFillByPeriods_L r 11 (f_sFillByPeriods_s11 x0 x1 x2 x3 x4 x5 x6 x7 x8 x9 x10 x11 x12 x13) = some r :=
  step_of' h (by kernel_rfl)
noncomputable def f_sFillByPeriods_n11 (x0 : Int) (x1 : Int) (x2 : Int) (x3 : Int) (x4 : Int) (x5 : Int) (x6 : (Nat → Int)) (x7 : Int) (x8 : Int) (x9 : (Nat → Int)) (x10 : Int) (x11 : Int) (x12 : (Nat → Int)) (x13 : (List Int)) : Option ((Int × Int × Int × Int × Int × Int × (Nat → Int) × Int × Int × (Nat → Int) × Int × Int × (Nat → Int) × (List Int)) ⊕ (Int × Int × (Nat → Int) × Int × Int)) := (cond (decide (x3 < ((List.length x13 : Nat) : Int))) (f_sFillByPeriods_run14 (x0, x1, x2, x3, 0, x4, x5, x6, x7, x8, x9, x10, x11, x12, x13)) (some (Sum.inr (x10, x11, x12, x2, 0))))
noncomputable def f_sFillByPeriods_run11 (x : (Int × Int × Int × Int × Int × Int × (Nat → Int) × Int × Int × (Nat → Int) × Int × Int × (Nat → Int) × (List Int))) : Option (Int × Int × (Nat → Int) × Int × Int) := iter (fun x => f_sFillByPeriods_n11 x.1 x.2.1 x.2.2.1 x.2.2.2.1 x.2.2.2.2.1 x.2.2.2.2.2.1 x.2.2.2.2.2.2.1 x.2.2.2.2.2.2.2.1 x.2.2.2.2.2.2.2.2.1 x.2.2.2.2.2.2.2.2.2.1 x.2.2.2.2.2.2.2.2.2.2.1 x.2.2.2.2.2.2.2.2.2.2.2.1 x.2.2.2.2.2.2.2.2.2.2.2.2.1 x.2.2.2.2.2.2.2.2.2.2.2.2.2) FU x
noncomputable def f_sFillByPeriods_G11 (r : List A) (x : (Int × Int × Int × Int × Int × Int × (Nat → Int) × Int × Int × (Nat → Int) × Int × Int × (Nat → Int) × (List Int))) : Prop := f_sFillByPeriods_L r 11 (f_sFillByPeriods_s11 x.1 x.2.1 x.2.2.1 x.2.2.2.1 x.2.2.2.2.1 x.2.2.2.2.2.1 x.2.2.2.2.2.2.1 x.2.2.2.2.2.2.2.1 x.2.2.2.2.2.2.2.2.1 x.2.2.2.2.2.2.2.2.2.1 x.2.2.2.2.2.2.2.2.2.2.1 x.2.2.2.2.2.2.2.2.2.2.2.1 x.2.2.2.2.2.2.2.2.2.2.2.2.1 x.2.2.2.2.2.2.2.2.2.2.2.2.2) = some r
noncomputable def f_sFillByPeriods_S11 (r : List A) : (Int × Int × (Nat → Int) × Int × Int) → Prop := fun v => r = l_sFillByPeriods v
noncomputable def f_sFillByPeriods_S14 (r : List A) : ((Int × Int × Int × Int × Int × Int × (Nat → Int) × Int × Int × (Nat → Int) × Int × Int × (Nat → Int) × (List Int)) ⊕ (Int × Int × (Nat → Int) × Int × Int)) → Prop := goesOn (f_sFillByPeriods_G11 r) (f_sFillByPeriods_S11 r)
theorem f_sFillByPeriods_go14 (r : List A) : ∀ x, sem (f_sFillByPeriods_S14 r) (f_sFillByPeriods_run14 x) → f_sFillByPeriods_G14 r x :=
  fun x => iter_sound (step := fun x => f_sFillByPeriods_n14 x.1 x.2.1 x.2.2.1 x.2.2.2.1 x.2.2.2.2.1 x.2.2.2.2.2.1 x.2.2.2.2.2.2.1 x.2.2.2.2.2.2.2.1 x.2.2.2.2.2.2.2.2.1 x.2.2.2.2.2.2.2.2.2.1 x.2.2.2.2.2.2.2.2.2.2.1 x.2.2.2.2.2.2.2.2.2.2.2.1 x.2.2.2.2.2.2.2.2.2.2.2.2.1 x.2.2.2.2.2.2.2.2.2.2.2.2.2.1 x.2.2.2.2.2.2.2.2.2.2.2.2.2.2) (fun x h => by
    unfold f_sFillByPeriods_n14 at h
    exact f_sFillByPeriods_step14 x.1 x.2.1 x.2.2.1 x.2.2.2.1 x.2.2.2.2.1 x.2.2.2.2.2.1 x.2.2.2.2.2.2.1 x.2.2.2.2.2.2.2.1 x.2.2.2.2.2.2.2.2.1 x.2.2.2.2.2.2.2.2.2.1 x.2.2.2.2.2.2.2.2.2.2.1 x.2.2.2.2.2.2.2.2.2.2.2.1 x.2.2.2.2.2.2.2.2.2.2.2.2.1 x.2.2.2.2.2.2.2.2.2.2.2.2.2.1 x.2.2.2.2.2.2.2.2.2.2.2.2.2.2 r ((sem_cond h (fun h => (sem_cond h (fun h => (sem_cond h (fun h => (sem_cond h (fun h => (sem_bind h fun r3 h => (sem_cond h (fun h => (sem_cond h (fun h => (sem_cond h (fun h => (sem_cond h (fun h => sem_got h fun q => q) (fun h => sem_none h))) (fun h => sem_none h))) (fun h => sem_none h))) (fun h => sem_got h fun q => q)))) (fun h => sem_none h))) (fun h => sem_got h fun q => q))) (fun h => sem_none h))) (fun h => sem_got h fun q => q)))) FU x
theorem f_sFillByPeriods_go11 (r : List A) : ∀ x, sem (f_sFillByPeriods_S11 r) (f_sFillByPeriods_run11 x) → f_sFillByPeriods_G11 r x :=
  fun x => iter_sound (step := fun x => f_sFillByPeriods_n11 x.1 x.2.1 x.2.2.1 x.2.2.2.1 x.2.2.2.2.1 x.2.2.2.2.2.1 x.2.2.2.2.2.2.1 x.2.2.2.2.2.2.2.1 x.2.2.2.2.2.2.2.2.1 x.2.2.2.2.2.2.2.2.2.1 x.2.2.2.2.2.2.2.2.2.2.1 x.2.2.2.2.2.2.2.2.2.2.2.1 x.2.2.2.2.2.2.2.2.2.2.2.2.1 x.2.2.2.2.2.2.2.2.2.2.2.2.2) (fun x h => by
    unfold f_sFillByPeriods_n11 at h
    exact f_sFillByPeriods_step11 x.1 x.2.1 x.2.2.1 x.2.2.2.1 x.2.2.2.2.1 x.2.2.2.2.2.1 x.2.2.2.2.2.2.1 x.2.2.2.2.2.2.2.1 x.2.2.2.2.2.2.2.2.1 x.2.2.2.2.2.2.2.2.2.1 x.2.2.2.2.2.2.2.2.2.2.1 x.2.2.2.2.2.2.2.2.2.2.2.1 x.2.2.2.2.2.2.2.2.2.2.2.2.1 x.2.2.2.2.2.2.2.2.2.2.2.2.2 r ((sem_cond h (fun h => f_sFillByPeriods_go14 r _ h) (fun h => sem_got h fun q => some_eq q)))) FU x
noncomputable def s_sFillByPeriods (a0 : Int) (a1 : Int) (a2 : (Nat → Int)) (a3 : Int) (a4 : Int) : Option (Int × Int × (Nat → Int) × Int × Int) := (cond ((s_sl06Periods a0 a1 a2 a3 a4) != 0) (some (0, 0, zF, 0, (s_sl06Periods a0 a1 a2 a3 a4))) (Option.bind (s_sl06Conflict a0 a1 a2 a3 a4) fun r1 => (cond (decide (r1.1 ≥ 0)) (some (0, 0, zF, 0, 8)) (Option.bind (s_sl06Lost a0 a1 a2) fun r2 => (f_sFillByPeriods_run11 (a3, a4, 0, 0, a0, a1, a2, 0, 0, zF, a0, a1, a2, r2))))))
theorem f_sFillByPeriods_top (a0 : Int) (a1 : Int) (a2 : (Nat → Int)) (a3 : Int) (a4 : Int) (r : List A) : ev f_sFillByPeriods_X (lpc (cnOf f_sFillByPeriods_LV) (f_sFillByPeriods_L r)) f_sFillByPeriods_c (K0 TT f_sFillByPeriods_rv) (enter [.rc [.v (.int .i8 a0), .v (.int .i8 a1), .fa 144 .u8 a2], .v (.int .i64 a3), .v (.int .i64 a4)]) = (cond ((s_sl06Periods a0 a1 a2 a3 a4) != 0) (some [.rc [.v (.int .i8 0), .v (.int .i8 0), .fa 144 .u8 zF], .v (.int .i64 0), .v (.int .i64 (s_sl06Periods a0 a1 a2 a3 a4))]) (Option.bind (s_sl06Conflict a0 a1 a2 a3 a4) fun r1 => (cond (decide (r1.1 ≥ 0)) (some [.rc [.v (.int .i8 0), .v (.int .i8 0), .fa 144 .u8 zF], .v (.int .i64 0), .v (.int .i64 8)]) (Option.bind (s_sl06Lost a0 a1 a2) fun r2 => (f_sFillByPeriods_L r 11 (f_sFillByPeriods_s11 a3 a4 0 0 a0 a1 a2 0 0 zF a0 a1 a2 r2)))))) := by kernel_rfl
theorem s_sFillByPeriods_ok (a0 : Int) (a1 : Int) (a2 : (Nat → Int)) (a3 : Int) (a4 : Int) (v : (Int × Int × (Nat → Int) × Int × Int)) (h : s_sFillByPeriods a0 a1 a2 a3 a4 = some v) : (cond ((s_sl06Periods a0 a1 a2 a3 a4) != 0) (some [.rc [.v (.int .i8 0), .v (.int .i8 0), .fa 144 .u8 zF], .v (.int .i64 0), .v (.int .i64 (s_sl06Periods a0 a1 a2 a3 a4))]) (Option.bind (s_sl06Conflict a0 a1 a2 a3 a4) fun r1 => (cond (decide (r1.1 ≥ 0)) (some [.rc [.v (.int .i8 0), .v (.int .i8 0), .fa 144 .u8 zF], .v (.int .i64 0), .v (.int .i64 8)]) (Option.bind (s_sl06Lost a0 a1 a2) fun r2 => (f_sFillByPeriods_L (l_sFillByPeriods v) 11 (f_sFillByPeriods_s11 a3 a4 0 0 a0 a1 a2 0 0 zF a0 a1 a2 r2)))))) = some (l_sFillByPeriods v) := by
  unfold s_sFillByPeriods at h
  have go : ∀ r, sem (fun v => r = l_sFillByPeriods v) ((cond ((s_sl06Periods a0 a1 a2 a3 a4) != 0) (some (0, 0, zF, 0, (s_sl06Periods a0 a1 a2 a3 a4))) (Option.bind (s_sl06Conflict a0 a1 a2 a3 a4) fun r1 => (cond (decide (r1.1 ≥ 0)) (some (0, 0, zF, 0, 8)) (Option.bind (s_sl06Lost a0 a1 a2) fun r2 => (f_sFillByPeriods_run11 (a3, a4, 0, 0, a0, a1, a2, 0, 0, zF, a0, a1, a2, r2))))))) → (cond ((s_sl06Periods a0 a1 a2 a3 a4) != 0) (some [.rc [.v (.int .i8 0), .v (.int .i8 0), .fa 144 .u8 zF], .v (.int .i64 0), .v (.int .i64 (s_sl06Periods a0 a1 a2 a3 a4))]) (Option.bind (s_sl06Conflict a0 a1 a2 a3 a4) fun r1 => (cond (decide (r1.1 ≥ 0)) (some [.rc [.v (.int .i8 0), .v (.int .i8 0), .fa 144 .u8 zF], .v (.int .i64 0), .v (.int .i64 8)]) (Option.bind (s_sl06Lost a0 a1 a2) fun r2 => (f_sFillByPeriods_L r 11 (f_sFillByPeriods_s11 a3 a4 0 0 a0 a1 a2 0 0 zF a0 a1 a2 r2)))))) = some r := fun r h => (sem_cond h (fun h => sem_got h fun q => some_eq q) (fun h => (sem_bind h fun r1 h => (sem_cond h (fun h => sem_got h fun q => some_eq q) (fun h => (sem_bind h fun r2 h => f_sFillByPeriods_go11 r _ h))))))
  exact go (l_sFillByPeriods v) ⟨v, h, rfl⟩
noncomputable def c_sFillByPeriods : List A → ACall
  | [.rc [.v (.int .i8 a0), .v (.int .i8 a1), .fa 144 .u8 a2], .v (.int .i64 a3), .v (.int .i64 a4)] => ⟨(Int × Int × (Nat → Int) × Int × Int), s_sFillByPeriods a0 a1 a2 a3 a4, fun r => .tup [.rc [.v (.int .i8 r.1), .v (.int .i8 r.2.1), .fa 144 .u8 r.2.2.1], .v (.int .i64 r.2.2.2.1), .v (.int .i64 r.2.2.2.2)]⟩
  | _ => ACall.fail
theorem f_sFillByPeriods_sound : Sound Try.prog 48 c_sFillByPeriods := by
  refine sound_good f_sFillByPeriods_ctx f_sFillByPeriods_LV 3 Try.func48 (c := f_sFillByPeriods_c) (by kernel_rfl) (rv := f_sFillByPeriods_rv) (by kernel_rfl) (by kernel_rfl) (by kernel_rfl) (by kernel_rfl) fun rs => ?_
  unfold c_sFillByPeriods
  split
  · rename_i a0 a1 a2 a3 a4; intro v h; exact ⟨rfl, l_sFillByPeriods v, rfl, (f_sFillByPeriods_top a0 a1 a2 a3 a4 _).trans (s_sFillByPeriods_ok a0 a1 a2 a3 a4 v h)⟩
  · intro v h; cases h

/-! ### function 118: (loop.example/g01322/impl.Picture).size -/
noncomputable def f_iPicture_size_c : Code := match Try.f118.body with | some c => c | none => .skip
noncomputable def f_iPicture_size_X : Ctx := ⟨TT, phiOf [], noPsi⟩
def f_iPicture_size_LV : List (Nat × Keep) := []
def f_iPicture_size_rv : List ResultVar := [.tmp 2, .tmp 3]
noncomputable def f_iPicture_size_L (r : List A) : Nat → AS → Option (List A) := L f_iPicture_size_X (cnOf f_iPicture_size_LV) f_iPicture_size_c (K0 TT f_iPicture_size_rv) r
theorem f_iPicture_size_ctx : CtxOK Try.prog f_iPicture_size_X := ctx_of tab mix trivial
noncomputable def s_iPicture_size (a0 : Int) (a1 : Int) (a2 : (Nat → Int)) : (Int × Int) := ((IntKind.wrap .i64 a0), (IntKind.wrap .i64 a1))
theorem f_iPicture_size_top (a0 : Int) (a1 : Int) (a2 : (Nat → Int)) (r : List A) : ev f_iPicture_size_X (lpc (cnOf f_iPicture_size_LV) (f_iPicture_size_L r)) f_iPicture_size_c (K0 TT f_iPicture_size_rv) (enter [.rc [.v (.int .i8 a0), .v (.int .i8 a1), .fa 144 .u8 a2]]) = (some [.v (.int .i64 (IntKind.wrap .i64 a0)), .v (.int .i64 (IntKind.wrap .i64 a1))]) := by kernel_rfl
noncomputable def l_iPicture_size (r : (Int × Int)) : List A := [.v (.int .i64 r.1), .v (.int .i64 r.2)]
theorem s_iPicture_size_ok (a0 : Int) (a1 : Int) (a2 : (Nat → Int)) : (some [.v (.int .i64 (IntKind.wrap .i64 a0)), .v (.int .i64 (IntKind.wrap .i64 a1))]) = some (l_iPicture_size (s_iPicture_size a0 a1 a2)) := by
  unfold s_iPicture_size
  exact rfl
noncomputable def c_iPicture_size : List A → ACall
  | [.rc [.v (.int .i8 a0), .v (.int .i8 a1), .fa 144 .u8 a2]] => ⟨(Int × Int), some (s_iPicture_size a0 a1 a2), fun r => .tup [.v (.int .i64 r.1), .v (.int .i64 r.2)]⟩
  | _ => ACall.fail
theorem f_iPicture_size_sound : Sound Try.prog 118 c_iPicture_size := by
  refine sound_good f_iPicture_size_ctx f_iPicture_size_LV 1 Try.func118 (c := f_iPicture_size_c) (by kernel_rfl) (rv := f_iPicture_size_rv) (by kernel_rfl) (by kernel_rfl) (by kernel_rfl) (by kernel_rfl) fun rs => ?_
  unfold c_iPicture_size
  split
  · rename_i a0 a1 a2; intro v h; cases h; exact ⟨rfl, l_iPicture_size (s_iPicture_size a0 a1 a2), rfl, (f_iPicture_size_top a0 a1 a2 _).trans (s_iPicture_size_ok a0 a1 a2)⟩
  · intro v h; cases h

/-! ### function 94: (loop.example/g01322/impl.Picture).arePeriods -/
noncomputable def f_iPicture_arePeriods_c : Code := match Try.f94.body with | some c => c | none => .skip
noncomputable def f_iPicture_arePeriods_X : Ctx := ⟨TT, phiOf [(118, c_iPicture_size), (84, c_iwithin)], noPsi⟩
def f_iPicture_arePeriods_LV : List (Nat × Keep) := []
def f_iPicture_arePeriods_rv : List ResultVar := [.tmp 6]
noncomputable def f_iPicture_arePeriods_L (r : List A) : Nat → AS → Option (List A) := L f_iPicture_arePeriods_X (cnOf f_iPicture_arePeriods_LV) f_iPicture_arePeriods_c (K0 TT f_iPicture_arePeriods_rv) r
theorem f_iPicture_arePeriods_ctx : CtxOK Try.prog f_iPicture_arePeriods_X := ctx_of tab mix ⟨⟨Try.call118, f_iPicture_size_sound⟩, ⟨Try.call84, f_iwithin_sound⟩, trivial⟩
noncomputable def s_iPicture_arePeriods (a0 : Int) (a1 : Int) (a2 : (Nat → Int)) (a3 : Int) (a4 : Int) : Bool := (cond (s_iwithin a3 1 (s_iPicture_size a0 a1 a2).1) (s_iwithin a4 1 (s_iPicture_size a0 a1 a2).2) false)
theorem f_iPicture_arePeriods_top (a0 : Int) (a1 : Int) (a2 : (Nat → Int)) (a3 : Int) (a4 : Int) (r : List A) : ev f_iPicture_arePeriods_X (lpc (cnOf f_iPicture_arePeriods_LV) (f_iPicture_arePeriods_L r)) f_iPicture_arePeriods_c (K0 TT f_iPicture_arePeriods_rv) (enter [.rc [.v (.int .i8 a0), .v (.int .i8 a1), .fa 144 .u8 a2], .v (.int .i64 a3), .v (.int .i64 a4)]) = (cond (s_iwithin a3 1 (s_iPicture_size a0 a1 a2).1) (some [.v (.bool (s_iwithin a4 1 (s_iPicture_size a0 a1 a2).2))]) (some [.v (.bool false)])) := by kernel_rfl
noncomputable def l_iPicture_arePeriods (r : Bool) : List A := [.v (.bool r)]
theorem s_iPicture_arePeriods_ok (a0 : Int) (a1 : Int) (a2 : (Nat → Int)) (a3 : Int) (a4 : Int) : (cond (s_iwithin a3 1 (s_iPicture_size a0 a1 a2).1) (some [.v (.bool (s_iwithin a4 1 (s_iPicture_size a0 a1 a2).2))]) (some [.v (.bool false)])) = some (l_iPicture_arePeriods (s_iPicture_arePeriods a0 a1 a2 a3 a4)) := by
  unfold s_iPicture_arePeriods
  exact (cond_app (fun x => some (l_iPicture_arePeriods x)) rfl rfl)
noncomputable def c_iPicture_arePeriods : List A → ACall
  | [.rc [.v (.int .i8 a0), .v (.int .i8 a1), .fa 144 .u8 a2], .v (.int .i64 a3), .v (.int .i64 a4)] => ⟨Bool, some (s_iPicture_arePeriods a0 a1 a2 a3 a4), fun r => .one (.v (.bool r))⟩
  | _ => ACall.fail
theorem f_iPicture_arePeriods_sound : Sound Try.prog 94 c_iPicture_arePeriods := by
  refine sound_good f_iPicture_arePeriods_ctx f_iPicture_arePeriods_LV 3 Try.func94 (c := f_iPicture_arePeriods_c) (by kernel_rfl) (rv := f_iPicture_arePeriods_rv) (by kernel_rfl) (by kernel_rfl) (by kernel_rfl) (by kernel_rfl) fun rs => ?_
  unfold c_iPicture_arePeriods
  split
  · rename_i a0 a1 a2 a3 a4; intro v h; cases h; exact ⟨rfl, l_iPicture_arePeriods (s_iPicture_arePeriods a0 a1 a2 a3 a4), rfl, (f_iPicture_arePeriods_top a0 a1 a2 a3 a4 _).trans (s_iPicture_arePeriods_ok a0 a1 a2 a3 a4)⟩
  · intro v h; cases h

/-! ### function 98: loop.example/g01322/impl.alike -/
noncomputable def f_ialike_c : Code := match Try.f98.body with | some c => c | none => .skip
noncomputable def f_ialike_X : Ctx := ⟨TT, phiOf [], noPsi⟩
def f_ialike_LV : List (Nat × Keep) := []
def f_ialike_rv : List ResultVar := [.tmp 8]
noncomputable def f_ialike_L (r : List A) : Nat → AS → Option (List A) := L f_ialike_X (cnOf f_ialike_LV) f_ialike_c (K0 TT f_ialike_rv) r
theorem f_ialike_ctx : CtxOK Try.prog f_ialike_X := ctx_of tab mix trivial
noncomputable def s_ialike (a0 : Int) (a1 : Int) (a2 : Int) (a3 : Int) : Option Bool := (cond (decide (a2 = 0)) none (cond (decide (a2 = 0)) none (cond ((Int.tmod (Int.tmod a0 12) a2) == (Int.tmod (Int.tmod a1 12) a2)) (cond (decide (a3 = 0)) none (cond (decide (a3 = 0)) none (some ((Int.tmod (IntKind.wrap .i64 (Int.tdiv a0 12)) a3) == (Int.tmod (IntKind.wrap .i64 (Int.tdiv a1 12)) a3))))) (some false))))
theorem f_ialike_top (a0 : Int) (a1 : Int) (a2 : Int) (a3 : Int) (r : List A) : ev f_ialike_X (lpc (cnOf f_ialike_LV) (f_ialike_L r)) f_ialike_c (K0 TT f_ialike_rv) (enter [.v (.int .i64 a0), .v (.int .i64 a1), .v (.int .i64 a2), .v (.int .i64 a3)]) = (cond (decide (a2 = 0)) none (cond (decide (a2 = 0)) none (cond ((Int.tmod (Int.tmod a0 12) a2) == (Int.tmod (Int.tmod a1 12) a2)) (cond (decide (a3 = 0)) none (cond (decide (a3 = 0)) none (some [.v (.bool ((Int.tmod (IntKind.wrap .i64 (Int.tdiv a0 12)) a3) == (Int.tmod (IntKind.wrap .i64 (Int.tdiv a1 12)) a3)))]))) (some [.v (.bool false)])))) := by kernel_rfl
noncomputable def l_ialike (r : Bool) : List A := [.v (.bool r)]
theorem s_ialike_ok (a0 : Int) (a1 : Int) (a2 : Int) (a3 : Int) (v : Bool) (h : s_ialike a0 a1 a2 a3 = some v) : (cond (decide (a2 = 0)) none (cond (decide (a2 = 0)) none (cond ((Int.tmod (Int.tmod a0 12) a2) == (Int.tmod (Int.tmod a1 12) a2)) (cond (decide (a3 = 0)) none (cond (decide (a3 = 0)) none (some [.v (.bool ((Int.tmod (IntKind.wrap .i64 (Int.tdiv a0 12)) a3) == (Int.tmod (IntKind.wrap .i64 (Int.tdiv a1 12)) a3)))]))) (some [.v (.bool false)])))) = some (l_ialike v) := by
  have e : (cond (decide (a2 = 0)) none (cond (decide (a2 = 0)) none (cond ((Int.tmod (Int.tmod a0 12) a2) == (Int.tmod (Int.tmod a1 12) a2)) (cond (decide (a3 = 0)) none (cond (decide (a3 = 0)) none (some [.v (.bool ((Int.tmod (IntKind.wrap .i64 (Int.tdiv a0 12)) a3) == (Int.tmod (IntKind.wrap .i64 (Int.tdiv a1 12)) a3)))]))) (some [.v (.bool false)])))) = Option.map l_ialike (s_ialike a0 a1 a2 a3) := by
    unfold s_ialike
    exact (cond_app (Option.map l_ialike) rfl (cond_app (Option.map l_ialike) rfl (cond_app (Option.map l_ialike) (cond_app (Option.map l_ialike) rfl (cond_app (Option.map l_ialike) rfl rfl)) rfl)))
  rw [e, h]; rfl
noncomputable def c_ialike : List A → ACall
  | [.v (.int .i64 a0), .v (.int .i64 a1), .v (.int .i64 a2), .v (.int .i64 a3)] => ⟨Bool, s_ialike a0 a1 a2 a3, fun r => .one (.v (.bool r))⟩
  | _ => ACall.fail
theorem f_ialike_sound : Sound Try.prog 98 c_ialike := by
  refine sound_good f_ialike_ctx f_ialike_LV 4 Try.func98 (c := f_ialike_c) (by kernel_rfl) (rv := f_ialike_rv) (by kernel_rfl) (by kernel_rfl) (by kernel_rfl) (by kernel_rfl) fun rs => ?_
  unfold c_ialike
  split
  · rename_i a0 a1 a2 a3; intro v h; exact ⟨rfl, l_ialike v, rfl, (f_ialike_top a0 a1 a2 a3 _).trans (s_ialike_ok a0 a1 a2 a3 v h)⟩
  · intro v h; cases h

/-! ### function 95: (loop.example/g01322/impl.Picture).conflict -/
noncomputable def f_iPicture_conflict_c : Code := match Try.f95.body with | some c => c | none => .skip
noncomputable def f_iPicture_conflict_X : Ctx := ⟨TT, phiOf [(97, c_iPicture_numbers), (98, c_ialike)], noPsi⟩
def f_iPicture_conflict_LV : List (Nat × Keep) := [(3, ([1, 2, 3, 9, 16, 17, 18], [1], [])), (6, ([1, 2, 3, 9, 11, 16, 17, 18, 26, 27, 28], [], []))]
def f_iPicture_conflict_rv : List ResultVar := [.tmp 6, .tmp 7, .tmp 8]
noncomputable def f_iPicture_conflict_L (r : List A) : Nat → AS → Option (List A) := L f_iPicture_conflict_X (cnOf f_iPicture_conflict_LV) f_iPicture_conflict_c (K0 TT f_iPicture_conflict_rv) r
theorem f_iPicture_conflict_ctx : CtxOK Try.prog f_iPicture_conflict_X := ctx_of tab mix ⟨⟨Try.call97, f_iPicture_numbers_sound⟩, ⟨Try.call98, f_ialike_sound⟩, trivial⟩
noncomputable def f_iPicture_conflict_s3 (x0 : Int) (x1 : Int) (x2 : Int) (x3 : Int) (x4 : Int) (x5 : Int) (x6 : (Nat → Int)) (x7 : (List Int)) : AS := ⟨[(1, .a (.v (.int .i64 x0))), (2, .a (.v (.int .i64 x1))), (3, .a (.ptr 0 [] (0))), (9, .a (.sl 1)), (16, .a (.sl 1)), (17, .a (.v (.int .i64 x2))), (18, .a (.v (.int .i64 x3)))], [(0, some ⟨true, .box (.rc [.v (.int .i8 x4), .v (.int .i8 x5), .fa 144 .u8 x6])⟩), (1, some ⟨false, .arr (.one (.i .i64)) x7⟩)], 2⟩
noncomputable def f_iPicture_conflict_s6 (x0 : Int) (x1 : Int) (x2 : Int) (x3 : Int) (x4 : Int) (x5 : Int) (x6 : Int) (x7 : Int) (x8 : Int) (x9 : (Nat → Int)) (x10 : (List Int)) (x11 : (List Int)) : AS := ⟨[(1, .a (.v (.int .i64 x0))), (2, .a (.v (.int .i64 x1))), (3, .a (.ptr 0 [] (0))), (9, .a (.sl 1)), (11, .a (.v (.int .i64 x2))), (16, .a (.sl 1)), (17, .a (.v (.int .i64 x3))), (18, .a (.v (.int .i64 x4))), (26, .a (.sl 2)), (27, .a (.v (.int .i64 x5))), (28, .a (.v (.int .i64 x6)))], [(0, some ⟨true, .box (.rc [.v (.int .i8 x7), .v (.int .i8 x8), .fa 144 .u8 x9])⟩), (1, some ⟨false, .arr (.one (.i .i64)) x10⟩), (2, some ⟨false, .arr (.one (.i .i64)) x11⟩)], 3⟩
noncomputable def l_iPicture_conflict (r : (Int × Int × Bool)) : List A := [.v (.int .i64 r.1), .v (.int .i64 r.2.1), .v (.bool r.2.2)]
theorem f_iPicture_conflict_step6 (x0 : Int) (x1 : Int) (x2 : Int) (x3 : Int) (x4 : Int) (x5 : Int) (x6 : Int) (x7 : Int) (x8 : Int) (x9 : (Nat → Int)) (x10 : (List Int)) (x11 : (List Int)) (r : List A) (h : (cond (decide (x6 < x5)) (cond (inB x6 (List.length x11)) (cond (inB x2 144) (cond ((x9 (Int.toNat x2)) != 0) (cond (inB (List.getD x11 (Int.toNat x6) 0) 144) (cond ((x9 (Int.toNat (List.getD x11 (Int.toNat x6) 0))) != 0) (cond (inB x2 144) (cond (inB (List.getD x11 (Int.toNat x6) 0) 144) (cond ((x9 (Int.toNat x2)) != (x9 (Int.toNat (List.getD x11 (Int.toNat x6) 0)))) (Option.bind (s_ialike x2 (List.getD x11 (Int.toNat x6) 0) x0 x1) fun r2 => (cond r2 (some [.v (.int .i64 x2), .v (.int .i64 (List.getD x11 (Int.toNat x6) 0)), .v (.bool true)]) (f_iPicture_conflict_L r 6 (f_iPicture_conflict_s6 x0 x1 x2 x3 x4 x5 (IntKind.wrap .i64 (x6 + 1)) x7 x8 x9 x10 x11)))) (f_iPicture_conflict_L r 6 (f_iPicture_conflict_s6 x0 x1 x2 x3 x4 x5 (IntKind.wrap .i64 (x6 + 1)) x7 x8 x9 x10 x11))) none) none) (f_iPicture_conflict_L r 6 (f_iPicture_conflict_s6 x0 x1 x2 x3 x4 x5 (IntKind.wrap .i64 (x6 + 1)) x7 x8 x9 x10 x11))) none) (f_iPicture_conflict_L r 6 (f_iPicture_conflict_s6 x0 x1 x2 x3 x4 x5 (IntKind.wrap .i64 (x6 + 1)) x7 x8 x9 x10 x11))) none) none) (f_iPicture_conflict_L r 3 (f_iPicture_conflict_s3 x0 x1 x3 (IntKind.wrap .i64 (x4 + 1)) x7 x8 x9 x10))) = some r) : f_iPicture_conflict_L r 6 (f_iPicture_conflict_s6 x0 x1 x2 x3 x4 x5 x6 x7 x8 x9 x10 x11) = some r :=
  step_of' h (by kernel_rfl)
noncomputable def f_iPicture_conflict_n6 (x0 : Int) (x1 : Int) (x2 : Int) (x3 : Int) (x4 : Int) (x5 : Int) (x6 : Int) (x7 : Int) (x8 : Int) (x9 : (Nat → Int)) (x10 : (List Int)) (x11 : (List Int)) : Option ((Int × Int × Int × Int × Int × Int × Int × Int × Int × (Nat → Int) × (List Int) × (List Int)) ⊕ ((Int × Int × Int × Int × Int × Int × (Nat → Int) × (List Int)) ⊕ (Int × Int × Bool))) := (cond (decide (x6 < x5)) (cond (inB x6 (List.length x11)) (cond (inB x2 144) (cond ((x9 (Int.toNat x2)) != 0) (cond (inB (List.getD x11 (Int.toNat x6) 0) 144) (cond ((x9 (Int.toNat (List.getD x11 (Int.toNat x6) 0))) != 0) (cond (inB x2 144) (cond (inB (List.getD x11 (Int.toNat x6) 0) 144) (cond ((x9 (Int.toNat x2)) != (x9 (Int.toNat (List.getD x11 (Int.toNat x6) 0)))) (Option.bind (s_ialike x2 (List.getD x11 (Int.toNat x6) 0) x0 x1) fun r2 => (cond r2 (some (Sum.inr (Sum.inr (x2, (List.getD x11 (Int.toNat x6) 0), true)))) (some (Sum.inl (x0, x1, x2, x3, x4, x5, (IntKind.wrap .i64 (x6 + 1)), x7, x8, x9, x10, x11))))) (some (Sum.inl (x0, x1, x2, x3, x4, x5, (IntKind.wrap .i64 (x6 + 1)), x7, x8, x9, x10, x11)))) none) none) (some (Sum.inl (x0, x1, x2, x3, x4, x5, (IntKind.wrap .i64 (x6 + 1)), x7, x8, x9, x10, x11)))) none) (some (Sum.inl (x0, x1, x2, x3, x4, x5, (IntKind.wrap .i64 (x6 + 1)), x7, x8, x9, x10, x11)))) none) none) (some (Sum.inr (Sum.inl (x0, x1, x3, (IntKind.wrap .i64 (x4 + 1)), x7, x8, x9, x10)))))
noncomputable def f_iPicture_conflict_run6 (x : (Int × Int × Int × Int × Int × Int × Int × Int × Int × (Nat → Int) × (List Int) × (List Int))) : Option ((Int × Int × Int × Int × Int × Int × (Nat → Int) × (List Int)) ⊕ (Int × Int × Bool)) := iter (fun x => f_iPicture_conflict_n6 x.1 x.2.1 x.2.2.1 x.2.2.2.1 x.2.2.2.2.1 x.2.2.2.2.2.1 x.2.2.2.2.2.2.1 x.2.2.2.2.2.2.2.1 x.2.2.2.2.2.2.2.2.1 x.2.2.2.2.2.2.2.2.2.1 x.2.2.2.2.2.2.2.2.2.2.1 x.2.2.2.2.2.2.2.2.2.2.2) FU x
noncomputable def f_iPicture_conflict_G6 (r : List A) (x : (Int × Int × Int × Int × Int × Int × Int × Int × Int × (Nat → Int) × (List Int) × (List Int))) : Prop := f_iPicture_conflict_L r 6 (f_iPicture_conflict_s6 x.1 x.2.1 x.2.2.1 x.2.2.2.1 x.2.2.2.2.1 x.2.2.2.2.2.1 x.2.2.2.2.2.2.1 x.2.2.2.2.2.2.2.1 x.2.2.2.2.2.2.2.2.1 x.2.2.2.2.2.2.2.2.2.1 x.2.2.2.2.2.2.2.2.2.2.1 x.2.2.2.2.2.2.2.2.2.2.2) = some r
theorem f_iPicture_conflict_step3 (x0 : Int) (x1 : Int) (x2 : Int) (x3 : Int) (x4 : Int) (x5 : Int) (x6 : (Nat → Int)) (x7 : (List Int)) (r : List A) (h : (cond (decide (x3 < x2)) (cond (inB x3 (List.length x7)) (cond (inS (IntKind.wrap .i64 (x3 + 1)) ((List.length x7 : Nat) : Int) (List.length x7)) (f_iPicture_conflict_L r 6 (f_iPicture_conflict_s6 x0 x1 (List.getD x7 (Int.toNat x3) 0) x2 x3 ((List.length (List.drop (Int.toNat (IntKind.wrap .i64 (x3 + 1))) (List.take (Int.toNat ((List.length x7 : Nat) : Int)) x7)) : Nat) : Int) 0 x4 x5 x6 x7 (List.drop (Int.toNat (IntKind.wrap .i64 (x3 + 1))) (List.take (Int.toNat ((List.length x7 : Nat) : Int)) x7)))) none) none) (some [.v (.int .i64 0), .v (.int .i64 0), .v (.bool false)])) = some r) : f_iPicture_conflict_L r 3 (f_iPicture_conflict_s3 x0 x1 x2 x3 x4 x5 x6 x7) = some r :=
  step_of' h (by kernel_rfl)
noncomputable def f_iPicture_conflict_n3 (x0 : Int) (x1 : Int) (x2 : Int) (x3 : Int) (x4 : Int) (x5 : Int) (x6 : (Nat → Int)) (x7 : (List Int)) : Option ((Int × Int × Int × Int × Int × Int × (Nat → Int) × (List Int)) ⊕ (Int × Int × Bool)) := (cond (decide (x3 < x2)) (cond (inB x3 (List.length x7)) (cond (inS (IntKind.wrap .i64 (x3 + 1)) ((List.length x7 : Nat) : Int) (List.length x7)) (f_iPicture_conflict_run6 (x0, x1, (List.getD x7 (Int.toNat x3) 0), x2, x3, ((List.length (List.drop (Int.toNat (IntKind.wrap .i64 (x3 + 1))) (List.take (Int.toNat ((List.length x7 : Nat) : Int)) x7)) : Nat) : Int), 0, x4, x5, x6, x7, (List.drop (Int.toNat (IntKind.wrap .i64 (x3 + 1))) (List.take (Int.toNat ((List.length x7 : Nat) : Int)) x7)))) none) none) (some (Sum.inr (0, 0, false))))
noncomputable def f_iPicture_conflict_run3 (x : (Int × Int × Int × Int × Int × Int × (Nat → Int) × (List Int))) : Option (Int × Int × Bool) := iter (fun x => f_iPicture_conflict_n3 x.1 x.2.1 x.2.2.1 x.2.2.2.1 x.2.2.2.2.1 x.2.2.2.2.2.1 x.2.2.2.2.2.2.1 x.2.2.2.2.2.2.2) FU x
noncomputable def f_iPicture_conflict_G3 (r : List A) (x : (Int × Int × Int × Int × Int × Int × (Nat → Int) × (List Int))) : Prop := f_iPicture_conflict_L r 3 (f_iPicture_conflict_s3 x.1 x.2.1 x.2.2.1 x.2.2.2.1 x.2.2.2.2.1 x.2.2.2.2.2.1 x.2.2.2.2.2.2.1 x.2.2.2.2.2.2.2) = some r
noncomputable def f_iPicture_conflict_S3 (r : List A) : (Int × Int × Bool) → Prop := fun v => r = l_iPicture_conflict v
noncomputable def f_iPicture_conflict_S6 (r : List A) : ((Int × Int × Int × Int × Int × Int × (Nat → Int) × (List Int)) ⊕ (Int × Int × Bool)) → Prop := goesOn (f_iPicture_conflict_G3 r) (f_iPicture_conflict_S3 r)
theorem f_iPicture_conflict_go6 (r : List A) : ∀ x, sem (f_iPicture_conflict_S6 r) (f_iPicture_conflict_run6 x) → f_iPicture_conflict_G6 r x :=
  fun x => iter_sound (step := fun x => f_iPicture_conflict_n6 x.1 x.2.1 x.2.2.1 x.2.2.2.1 x.2.2.2.2.1 x.2.2.2.2.2.1 x.2.2.2.2.2.2.1 x.2.2.2.2.2.2.2.1 x.2.2.2.2.2.2.2.2.1 x.2.2.2.2.2.2.2.2.2.1 x.2.2.2.2.2.2.2.2.2.2.1 x.2.2.2.2.2.2.2.2.2.2.2) (fun x h => by
    unfold f_iPicture_conflict_n6 at h
    exact f_iPicture_conflict_step6 x.1 x.2.1 x.2.2.1 x.2.2.2.1 x.2.2.2.2.1 x.2.2.2.2.2.1 x.2.2.2.2.2.2.1 x.2.2.2.2.2.2.2.1 x.2.2.2.2.2.2.2.2.1 x.2.2.2.2.2.2.2.2.2.1 x.2.2.2.2.2.2.2.2.2.2.1 x.2.2.2.2.2.2.2.2.2.2.2 r ((sem_cond h (fun h => (sem_cond h (fun h => (sem_cond h (fun h => (sem_cond h (fun h => (sem_cond h (fun h => (sem_cond h (fun h => (sem_cond h (fun h => (sem_cond h (fun h => (sem_cond h (fun h => (sem_bind h fun r2 h => (sem_cond h (fun h => sem_got h fun q => some_eq q) (fun h => sem_got h fun q => q)))) (fun h => sem_got h fun q => q))) (fun h => sem_none h))) (fun h => sem_none h))) (fun h => sem_got h fun q => q))) (fun h => sem_none h))) (fun h => sem_got h fun q => q))) (fun h => sem_none h))) (fun h => sem_none h))) (fun h => sem_got h fun q => q)))) FU x
theorem f_iPicture_conflict_go3 (r : List A) : ∀ x, sem (f_iPicture_conflict_S3 r) (f_iPicture_conflict_run3 x) → f_iPicture_conflict_G3 r x :=
  fun x => iter_sound (step := fun x => f_iPicture_conflict_n3 x.1 x.2.1 x.2.2.1 x.2.2.2.1 x.2.2.2.2.1 x.2.2.2.2.2.1 x.2.2.2.2.2.2.1 x.2.2.2.2.2.2.2) (fun x h => by
    unfold f_iPicture_conflict_n3 at h
    exact f_iPicture_conflict_step3 x.1 x.2.1 x.2.2.1 x.2.2.2.1 x.2.2.2.2.1 x.2.2.2.2.2.1 x.2.2.2.2.2.2.1 x.2.2.2.2.2.2.2 r ((sem_cond h (fun h => (sem_cond h (fun h => (sem_cond h (fun h => f_iPicture_conflict_go6 r _ h) (fun h => sem_none h))) (fun h => sem_none h))) (fun h => sem_got h fun q => some_eq q)))) FU x
noncomputable def s_iPicture_conflict (a0 : Int) (a1 : Int) (a2 : (Nat → Int)) (a3 : Int) (a4 : Int) : Option (Int × Int × Bool) := (Option.bind (s_iPicture_numbers a0 a1 a2) fun r1 => (f_iPicture_conflict_run3 (a3, a4, ((List.length r1 : Nat) : Int), 0, a0, a1, a2, r1)))
theorem f_iPicture_conflict_top (a0 : Int) (a1 : Int) (a2 : (Nat → Int)) (a3 : Int) (a4 : Int) (r : List A) : ev f_iPicture_conflict_X (lpc (cnOf f_iPicture_conflict_LV) (f_iPicture_conflict_L r)) f_iPicture_conflict_c (K0 TT f_iPicture_conflict_rv) (enter [.rc [.v (.int .i8 a0), .v (.int .i8 a1), .fa 144 .u8 a2], .v (.int .i64 a3), .v (.int .i64 a4)]) = (Option.bind (s_iPicture_numbers a0 a1 a2) fun r1 => (f_iPicture_conflict_L r 3 (f_iPicture_conflict_s3 a3 a4 ((List.length r1 : Nat) : Int) 0 a0 a1 a2 r1))) := by kernel_rfl
theorem s_iPicture_conflict_ok (a0 : Int) (a1 : Int) (a2 : (Nat → Int)) (a3 : Int) (a4 : Int) (v : (Int × Int × Bool)) (h : s_iPicture_conflict a0 a1 a2 a3 a4 = some v) : (Option.bind (s_iPicture_numbers a0 a1 a2) fun r1 => (f_iPicture_conflict_L (l_iPicture_conflict v) 3 (f_iPicture_conflict_s3 a3 a4 ((List.length r1 : Nat) : Int) 0 a0 a1 a2 r1))) = some (l_iPicture_conflict v) := by
  unfold s_iPicture_conflict at h
  have go : ∀ r, sem (fun v => r = l_iPicture_conflict v) ((Option.bind (s_iPicture_numbers a0 a1 a2) fun r1 => (f_iPicture_conflict_run3 (a3, a4, ((List.length r1 : Nat) : Int), 0, a0, a1, a2, r1)))) → (Option.bind (s_iPicture_numbers a0 a1 a2) fun r1 => (f_iPicture_conflict_L r 3 (f_iPicture_conflict_s3 a3 a4 ((List.length r1 : Nat) : Int) 0 a0 a1 a2 r1))) = some r := fun r h => (sem_bind h fun r1 h => f_iPicture_conflict_go3 r _ h)
  exact go (l_iPicture_conflict v) ⟨v, h, rfl⟩
noncomputable def c_iPicture_conflict : List A → ACall
  | [.rc [.v (.int .i8 a0), .v (.int .i8 a1), .fa 144 .u8 a2], .v (.int .i64 a3), .v (.int .i64 a4)] => ⟨(Int × Int × Bool), s_iPicture_conflict a0 a1 a2 a3 a4, fun r => .tup [.v (.int .i64 r.1), .v (.int .i64 r.2.1), .v (.bool r.2.2)]⟩
  | _ => ACall.fail
theorem f_iPicture_conflict_sound : Sound Try.prog 95 c_iPicture_conflict := by
  refine sound_good f_iPicture_conflict_ctx f_iPicture_conflict_LV 3 Try.func95 (c := f_iPicture_conflict_c) (by kernel_rfl) (rv := f_iPicture_conflict_rv) (by kernel_rfl) (by kernel_rfl) (by kernel_rfl) (by kernel_rfl) fun rs => ?_
  unfold c_iPicture_conflict
  split
  · rename_i a0 a1 a2 a3 a4; intro v h; exact ⟨rfl, l_iPicture_conflict v, rfl, (f_iPicture_conflict_top a0 a1 a2 a3 a4 _).trans (s_iPicture_conflict_ok a0 a1 a2 a3 a4 v h)⟩
  · intro v h; cases h

/-! ### function 96: loop.example/g01322/impl.FillByPeriods$1 -/
noncomputable def f_iFillByPeriods_1_c : Code := match Try.f96.body with | some c => c | none => .skip
noncomputable def f_iFillByPeriods_1_X : Ctx := ⟨TT, phiOf [(97, c_iPicture_numbers), (98, c_ialike)], noPsi⟩
def f_iFillByPeriods_1_LV : List (Nat × Keep) := [(2, ([0, 1, 2, 3, 9, 10, 11], [], []))]
def f_iFillByPeriods_1_rv : List ResultVar := [.tmp 5]
noncomputable def f_iFillByPeriods_1_L (r : List A) : Nat → AS → Option (List A) := L f_iFillByPeriods_1_X (cnOf f_iFillByPeriods_1_LV) f_iFillByPeriods_1_c (K0 TT f_iFillByPeriods_1_rv) r
theorem f_iFillByPeriods_1_ctx : CtxOK Try.prog f_iFillByPeriods_1_X := ctx_of tab mix ⟨⟨Try.call97, f_iPicture_numbers_sound⟩, ⟨Try.call98, f_ialike_sound⟩, trivial⟩
noncomputable def f_iFillByPeriods_1_s2 (x0 : Int) (x1 : Int) (x2 : Int) (x3 : Int) (x4 : Int) (x5 : (Nat → Int)) (x6 : Int) (x7 : Int) (x8 : (List Int)) : AS := ⟨[(0, .a (.v (.int .i64 x0))), (1, .a (.ptr 0 [] (0))), (2, .a (.ptr 1 [] (0))), (3, .a (.ptr 2 [] (0))), (9, .a (.sl 3)), (10, .a (.v (.int .i64 x1))), (11, .a (.v (.int .i64 x2)))], [(0, some ⟨false, .box (.rc [.v (.int .i8 x3), .v (.int .i8 x4), .fa 144 .u8 x5])⟩), (1, some ⟨false, .box (.v (.int .i64 x6))⟩), (2, some ⟨false, .box (.v (.int .i64 x7))⟩), (3, some ⟨true, .arr (.one (.i .i64)) x8⟩)], 4⟩
noncomputable def l_iFillByPeriods_1 (r : Int) : List A := [.v (.int .u8 r)]
theorem f_iFillByPeriods_1_step2 (x0 : Int) (x1 : Int) (x2 : Int) (x3 : Int) (x4 : Int) (x5 : (Nat → Int)) (x6 : Int) (x7 : Int) (x8 : (List Int)) (r : List A) (h : (cond (decide (x2 < x1)) (cond (inB x2 (List.length x8)) (cond (inB (List.getD x8 (Int.toNat x2) 0) 144) (cond ((x5 (Int.toNat (List.getD x8 (Int.toNat x2) 0))) != 0) (Option.bind (s_ialike x0 (List.getD x8 (Int.toNat x2) 0) x6 x7) fun r2 => (cond r2 (cond (inB (List.getD x8 (Int.toNat x2) 0) 144) (some [.v (.int .u8 (x5 (Int.toNat (List.getD x8 (Int.toNat x2) 0))))]) none) (f_iFillByPeriods_1_L r 2 (f_iFillByPeriods_1_s2 x0 x1 (IntKind.wrap .i64 (x2 + 1)) x3 x4 x5 x6 x7 x8)))) (f_iFillByPeriods_1_L r 2 (f_iFillByPeriods_1_s2 x0 x1 (IntKind.wrap .i64 (x2 + 1)) x3 x4 x5 x6 x7 x8))) none) none) (some [.v (.int .u8 0)])) = some r) : f_iFillByPeriods_1_L r 2 (f_iFillByPeriods_1_s2 x0 x1 x2 x3 x4 x5 x6 x7 x8) = some r :=
  step_of' h (by kernel_rfl)
noncomputable def f_iFillByPeriods_1_n2 (x0 : Int) (x1 : Int) (x2 : Int) (x3 : Int) (x4 : Int) (x5 : (Nat → Int)) (x6 : Int) (x7 : Int) (x8 : (List Int)) : Option ((Int × Int × Int × Int × Int × (Nat → Int) × Int × Int × (List Int)) ⊕ Int) := (cond (decide (x2 < x1)) (cond (inB x2 (List.length x8)) (cond (inB (List.getD x8 (Int.toNat x2) 0) 144) (cond ((x5 (Int.toNat (List.getD x8 (Int.toNat x2) 0))) != 0) (Option.bind (s_ialike x0 (List.getD x8 (Int.toNat x2) 0) x6 x7) fun r2 => (cond r2 (cond (inB (List.getD x8 (Int.toNat x2) 0) 144) (some (Sum.inr (x5 (Int.toNat (List.getD x8 (Int.toNat x2) 0))))) none) (some (Sum.inl (x0, x1, (IntKind.wrap .i64 (x2 + 1)), x3, x4, x5, x6, x7, x8))))) (some (Sum.inl (x0, x1, (IntKind.wrap .i64 (x2 + 1)), x3, x4, x5, x6, x7, x8)))) none) none) (some (Sum.inr 0)))
noncomputable def f_iFillByPeriods_1_run2 (x : (Int × Int × Int × Int × Int × (Nat → Int) × Int × Int × (List Int))) : Option Int := iter (fun x => f_iFillByPeriods_1_n2 x.1 x.2.1 x.2.2.1 x.2.2.2.1 x.2.2.2.2.1 x.2.2.2.2.2.1 x.2.2.2.2.2.2.1 x.2.2.2.2.2.2.2.1 x.2.2.2.2.2.2.2.2) FU x
noncomputable def f_iFillByPeriods_1_G2 (r : List A) (x : (Int × Int × Int × Int × Int × (Nat → Int) × Int × Int × (List Int))) : Prop := f_iFillByPeriods_1_L r 2 (f_iFillByPeriods_1_s2 x.1 x.2.1 x.2.2.1 x.2.2.2.1 x.2.2.2.2.1 x.2.2.2.2.2.1 x.2.2.2.2.2.2.1 x.2.2.2.2.2.2.2.1 x.2.2.2.2.2.2.2.2) = some r
noncomputable def f_iFillByPeriods_1_S2 (r : List A) : Int → Prop := fun v => r = l_iFillByPeriods_1 v
theorem f_iFillByPeriods_1_go2 (r : List A) : ∀ x, sem (f_iFillByPeriods_1_S2 r) (f_iFillByPeriods_1_run2 x) → f_iFillByPeriods_1_G2 r x :=
  fun x => iter_sound (step := fun x => f_iFillByPeriods_1_n2 x.1 x.2.1 x.2.2.1 x.2.2.2.1 x.2.2.2.2.1 x.2.2.2.2.2.1 x.2.2.2.2.2.2.1 x.2.2.2.2.2.2.2.1 x.2.2.2.2.2.2.2.2) (fun x h => by
    unfold f_iFillByPeriods_1_n2 at h
    exact f_iFillByPeriods_1_step2 x.1 x.2.1 x.2.2.1 x.2.2.2.1 x.2.2.2.2.1 x.2.2.2.2.2.1 x.2.2.2.2.2.2.1 x.2.2.2.2.2.2.2.1 x.2.2.2.2.2.2.2.2 r ((sem_cond h (fun h => (sem_cond h (fun h => (sem_cond h (fun h => (sem_cond h (fun h => (sem_bind h fun r2 h => (sem_cond h (fun h => (sem_cond h (fun h => sem_got h fun q => some_eq q) (fun h => sem_none h))) (fun h => sem_got h fun q => q)))) (fun h => sem_got h fun q => q))) (fun h => sem_none h))) (fun h => sem_none h))) (fun h => sem_got h fun q => some_eq q)))) FU x
noncomputable def s_iFillByPeriods_1 (a0 : Int) (a1 : Int) (a2 : Int) (a3 : (Nat → Int)) (a4 : Int) (a5 : Int) : Option Int := (Option.bind (s_iPicture_numbers a1 a2 a3) fun r1 => (f_iFillByPeriods_1_run2 (a0, ((List.length r1 : Nat) : Int), 0, a1, a2, a3, a4, a5, r1)))
theorem f_iFillByPeriods_1_top (a0 : Int) (a1 : Int) (a2 : Int) (a3 : (Nat → Int)) (a4 : Int) (a5 : Int) (r : List A) : ev f_iFillByPeriods_1_X (lpc (cnOf f_iFillByPeriods_1_LV) (f_iFillByPeriods_1_L r)) f_iFillByPeriods_1_c (K0 TT f_iFillByPeriods_1_rv) (enter [.v (.int .i64 a0), .ref (.rc [.v (.int .i8 a1), .v (.int .i8 a2), .fa 144 .u8 a3]), .ref (.v (.int .i64 a4)), .ref (.v (.int .i64 a5))]) = (Option.bind (s_iPicture_numbers a1 a2 a3) fun r1 => (f_iFillByPeriods_1_L r 2 (f_iFillByPeriods_1_s2 a0 ((List.length r1 : Nat) : Int) 0 a1 a2 a3 a4 a5 r1))) := by kernel_rfl
theorem s_iFillByPeriods_1_ok (a0 : Int) (a1 : Int) (a2 : Int) (a3 : (Nat → Int)) (a4 : Int) (a5 : Int) (v : Int) (h : s_iFillByPeriods_1 a0 a1 a2 a3 a4 a5 = some v) : (Option.bind (s_iPicture_numbers a1 a2 a3) fun r1 => (f_iFillByPeriods_1_L (l_iFillByPeriods_1 v) 2 (f_iFillByPeriods_1_s2 a0 ((List.length r1 : Nat) : Int) 0 a1 a2 a3 a4 a5 r1))) = some (l_iFillByPeriods_1 v) := by
  unfold s_iFillByPeriods_1 at h
  have go : ∀ r, sem (fun v => r = l_iFillByPeriods_1 v) ((Option.bind (s_iPicture_numbers a1 a2 a3) fun r1 => (f_iFillByPeriods_1_run2 (a0, ((List.length r1 : Nat) : Int), 0, a1, a2, a3, a4, a5, r1)))) → (Option.bind (s_iPicture_numbers a1 a2 a3) fun r1 => (f_iFillByPeriods_1_L r 2 (f_iFillByPeriods_1_s2 a0 ((List.length r1 : Nat) : Int) 0 a1 a2 a3 a4 a5 r1))) = some r := fun r h => (sem_bind h fun r1 h => f_iFillByPeriods_1_go2 r _ h)
  exact go (l_iFillByPeriods_1 v) ⟨v, h, rfl⟩
noncomputable def c_iFillByPeriods_1 : List A → ACall
  | [.v (.int .i64 a0), .ref (.rc [.v (.int .i8 a1), .v (.int .i8 a2), .fa 144 .u8 a3]), .ref (.v (.int .i64 a4)), .ref (.v (.int .i64 a5))] => ⟨Int, s_iFillByPeriods_1 a0 a1 a2 a3 a4 a5, fun r => .one (.v (.int .u8 r))⟩
  | _ => ACall.fail
theorem f_iFillByPeriods_1_sound : Sound Try.prog 96 c_iFillByPeriods_1 := by
  refine sound_good f_iFillByPeriods_1_ctx f_iFillByPeriods_1_LV 4 Try.func96 (c := f_iFillByPeriods_1_c) (by kernel_rfl) (rv := f_iFillByPeriods_1_rv) (by kernel_rfl) (by kernel_rfl) (by kernel_rfl) (by kernel_rfl) fun rs => ?_
  unfold c_iFillByPeriods_1
  split
  · rename_i a0 a1 a2 a3 a4 a5; intro v h; exact ⟨rfl, l_iFillByPeriods_1 v, rfl, (f_iFillByPeriods_1_top a0 a1 a2 a3 a4 a5 _).trans (s_iFillByPeriods_1_ok a0 a1 a2 a3 a4 a5 v h)⟩
  · intro v h; cases h

/-! ### function 67: loop.example/g01322/impl.filled -/
noncomputable def f_ifilled_c_c : Code := match Try.f67.body with | some c => c | none => .skip
noncomputable def f_ifilled_c_X : Ctx := ⟨TT, phiOf [(96, c_iFillByPeriods_1), (97, c_iPicture_numbers)], noPsi⟩
def f_ifilled_c_LV : List (Nat × Keep) := [(3, ([1, 2, 4, 6, 7, 12, 13, 14], [], []))]
def f_ifilled_c_rv : List ResultVar := [.cell 4 27, .tmp 5]
noncomputable def f_ifilled_c_L (r : List A) : Nat → AS → Option (List A) := L f_ifilled_c_X (cnOf f_ifilled_c_LV) f_ifilled_c_c (K0 TT f_ifilled_c_rv) r
theorem f_ifilled_c_ctx : CtxOK Try.prog f_ifilled_c_X := ctx_of tab mix ⟨⟨Try.call96, f_iFillByPeriods_1_sound⟩, ⟨Try.call97, f_iPicture_numbers_sound⟩, trivial⟩
noncomputable def f_ifilled_c_s3 (x0 : Int) (x1 : Int) (x2 : Int) (x3 : Int) (x4 : Int) (x5 : (Nat → Int)) (x6 : Int) (x7 : Int) (x8 : Int) (x9 : Int) (x10 : (Nat → Int)) (x11 : Int) (x12 : Int) (x13 : (Nat → Int)) (x14 : Int) (x15 : Int) (x16 : (Nat → Int)) (x17 : (List Int)) : AS := ⟨[(1, .a (.clo 96 [.ptr 0 [] (0), .ptr 1 [] (0), .ptr 2 [] (0)])), (2, .a (.ptr 3 [] (0))), (4, .a (.ptr 4 [] (0))), (6, .a (.ptr 5 [] (0))), (7, .a (.v (.int .i64 x0))), (12, .a (.sl 6)), (13, .a (.v (.int .i64 x1))), (14, .a (.v (.int .i64 x2)))], [(0, some ⟨false, .box (.rc [.v (.int .i8 x3), .v (.int .i8 x4), .fa 144 .u8 x5])⟩), (1, some ⟨false, .box (.v (.int .i64 x6))⟩), (2, some ⟨false, .box (.v (.int .i64 x7))⟩), (3, some ⟨true, .box (.rc [.v (.int .i8 x8), .v (.int .i8 x9), .fa 144 .u8 x10])⟩), (4, some ⟨true, .box (.rc [.v (.int .i8 x11), .v (.int .i8 x12), .fa 144 .u8 x13])⟩), (5, some ⟨true, .box (.rc [.v (.int .i8 x14), .v (.int .i8 x15), .fa 144 .u8 x16])⟩), (6, some ⟨true, .arr (.one (.i .i64)) x17⟩)], 7⟩
noncomputable def l_ifilled_c (r : (Int × Int × (Nat → Int) × Int)) : List A := [.rc [.v (.int .i8 r.1), .v (.int .i8 r.2.1), .fa 144 .u8 r.2.2.1], .v (.int .i64 r.2.2.2)]
theorem f_ifilled_c_step3 (x0 : Int) (x1 : Int) (x2 : Int) (x3 : Int) (x4 : Int) (x5 : (Nat → Int)) (x6 : Int) (x7 : Int) (x8 : Int) (x9 : Int) (x10 : (Nat → Int)) (x11 : Int) (x12 : Int) (x13 : (Nat → Int)) (x14 : Int) (x15 : Int) (x16 : (Nat → Int)) (x17 : (List Int)) (r : List A) (h : (cond (decide (x2 < x1)) (cond (inB x2 (List.length x17)) (cond (inB (List.getD x17 (Int.toNat x2) 0) 144) (cond ((x10 (Int.toNat (List.getD x17 (Int.toNat x2) 0))) != 0) (f_ifilled_c_L r 3 (f_ifilled_c_s3 x0 x1 (IntKind.wrap .i64 (x2 + 1)) x3 x4 x5 x6 x7 x8 x9 x10 x11 x12 x13 x14 x15 x16 x17)) (Option.bind (s_iFillByPeriods_1 (List.getD x17 (Int.toNat x2) 0) x3 x4 x5 x6 x7) fun r2 => (cond (inB (List.getD x17 (Int.toNat x2) 0) 144) (cond (inB (List.getD x17 (Int.toNat x2) 0) 144) (cond (((upd x16 (Int.toNat (List.getD x17 (Int.toNat x2) 0)) r2) (Int.toNat (List.getD x17 (Int.toNat x2) 0))) != 0) (f_ifilled_c_L r 3 (f_ifilled_c_s3 (IntKind.wrap .i64 (x0 + 1)) x1 (IntKind.wrap .i64 (x2 + 1)) x3 x4 x5 x6 x7 x8 x9 x10 x11 x12 x13 x14 x15 (upd x16 (Int.toNat (List.getD x17 (Int.toNat x2) 0)) r2) x17)) (f_ifilled_c_L r 3 (f_ifilled_c_s3 x0 x1 (IntKind.wrap .i64 (x2 + 1)) x3 x4 x5 x6 x7 x8 x9 x10 x11 x12 x13 x14 x15 (upd x16 (Int.toNat (List.getD x17 (Int.toNat x2) 0)) r2) x17))) none) none))) none) none) (some [.rc [.v (.int .i8 x14), .v (.int .i8 x15), .fa 144 .u8 x16], .v (.int .i64 x0)])) = some r) : f_ifilled_c_L r 3 (f_ifilled_c_s3 x0 x1 x2 x3 x4 x5 x6 x7 x8 x9 x10 x11 x12 x13 x14 x15 x16 x17) = some r :=
  step_of' h (by kernel_rfl)
noncomputable def f_ifilled_c_n3 (x0 : Int) (x1 : Int) (x2 : Int) (x3 : Int) (x4 : Int) (x5 : (Nat → Int)) (x6 : Int) (x7 : Int) (x8 : Int) (x9 : Int) (x10 : (Nat → Int)) (x11 : Int) (x12 : Int) (x13 : (Nat → Int)) (x14 : Int) (x15 : Int) (x16 : (Nat → Int)) (x17 : (List Int)) : Option ((Int × Int × Int × Int × Int × (Nat → Int) × Int × Int × Int × Int × (Nat → Int) × Int × Int × (Nat → Int) × Int × Int × (Nat → Int) × (List Int)) ⊕ (Int × Int × (Nat → Int) × Int)) := (cond (decide (x2 < x1)) (cond (inB x2 (List.length x17)) (cond (inB (List.getD x17 (Int.toNat x2) 0) 144) (cond ((x10 (Int.toNat (List.getD x17 (Int.toNat x2) 0))) != 0) (some (Sum.inl (x0, x1, (IntKind.wrap .i64 (x2 + 1)), x3, x4, x5, x6, x7, x8, x9, x10, x11, x12, x13, x14, x15, x16, x17))) (Option.bind (s_iFillByPeriods_1 (List.getD x17 (Int.toNat x2) 0) x3 x4 x5 x6 x7) fun r2 => (cond (inB (List.getD x17 (Int.toNat x2) 0) 144) (cond (inB (List.getD x17 (Int.toNat x2) 0) 144) (cond (((upd x16 (Int.toNat (List.getD x17 (Int.toNat x2) 0)) r2) (Int.toNat (List.getD x17 (Int.toNat x2) 0))) != 0) (some (Sum.inl ((IntKind.wrap .i64 (x0 + 1)), x1, (IntKind.wrap .i64 (x2 + 1)), x3, x4, x5, x6, x7, x8, x9, x10, x11, x12, x13, x14, x15, (upd x16 (Int.toNat (List.getD x17 (Int.toNat x2) 0)) r2), x17))) (some (Sum.inl (x0, x1, (IntKind.wrap .i64 (x2 + 1)), x3, x4, x5, x6, x7, x8, x9, x10, x11, x12, x13, x14, x15, (upd x16 (Int.toNat (List.getD x17 (Int.toNat x2) 0)) r2), x17)))) none) none))) none) none) (some (Sum.inr (x14, x15, x16, x0))))
noncomputable def f_ifilled_c_run3 (x : (Int × Int × Int × Int × Int × (Nat → Int) × Int × Int × Int × Int × (Nat → Int) × Int × Int × (Nat → Int) × Int × Int × (Nat → Int) × (List Int))) : Option (Int × Int × (Nat → Int) × Int) := iter (fun x => f_ifilled_c_n3 x.1 x.2.1 x.2.2.1 x.2.2.2.1 x.2.2.2.2.1 x.2.2.2.2.2.1 x.2.2.2.2.2.2.1 x.2.2.2.2.2.2.2.1 x.2.2.2.2.2.2.2.2.1 x.2.2.2.2.2.2.2.2.2.1 x.2.2.2.2.2.2.2.2.2.2.1 x.2.2.2.2.2.2.2.2.2.2.2.1 x.2.2.2.2.2.2.2.2.2.2.2.2.1 x.2.2.2.2.2.2.2.2.2.2.2.2.2.1 x.2.2.2.2.2.2.2.2.2.2.2.2.2.2.1 x.2.2.2.2.2.2.2.2.2.2.2.2.2.2.2.1 x.2.2.2.2.2.2.2.2.2.2.2.2.2.2.2.2.1 x.2.2.2.2.2.2.2.2.2.2.2.2.2.2.2.2.2) FU x
noncomputable def f_ifilled_c_G3 (r : List A) (x : (Int × Int × Int × Int × Int × (Nat → Int) × Int × Int × Int × Int × (Nat → Int) × Int × Int × (Nat → Int) × Int × Int × (Nat → Int) × (List Int))) : Prop := f_ifilled_c_L r 3 (f_ifilled_c_s3 x.1 x.2.1 x.2.2.1 x.2.2.2.1 x.2.2.2.2.1 x.2.2.2.2.2.1 x.2.2.2.2.2.2.1 x.2.2.2.2.2.2.2.1 x.2.2.2.2.2.2.2.2.1 x.2.2.2.2.2.2.2.2.2.1 x.2.2.2.2.2.2.2.2.2.2.1 x.2.2.2.2.2.2.2.2.2.2.2.1 x.2.2.2.2.2.2.2.2.2.2.2.2.1 x.2.2.2.2.2.2.2.2.2.2.2.2.2.1 x.2.2.2.2.2.2.2.2.2.2.2.2.2.2.1 x.2.2.2.2.2.2.2.2.2.2.2.2.2.2.2.1 x.2.2.2.2.2.2.2.2.2.2.2.2.2.2.2.2.1 x.2.2.2.2.2.2.2.2.2.2.2.2.2.2.2.2.2) = some r
noncomputable def f_ifilled_c_S3 (r : List A) : (Int × Int × (Nat → Int) × Int) → Prop := fun v => r = l_ifilled_c v
theorem f_ifilled_c_go3 (r : List A) : ∀ x, sem (f_ifilled_c_S3 r) (f_ifilled_c_run3 x) → f_ifilled_c_G3 r x :=
  fun x => iter_sound (step := fun x => f_ifilled_c_n3 x.1 x.2.1 x.2.2.1 x.2.2.2.1 x.2.2.2.2.1 x.2.2.2.2.2.1 x.2.2.2.2.2.2.1 x.2.2.2.2.2.2.2.1 x.2.2.2.2.2.2.2.2.1 x.2.2.2.2.2.2.2.2.2.1 x.2.2.2.2.2.2.2.2.2.2.1 x.2.2.2.2.2.2.2.2.2.2.2.1 x.2.2.2.2.2.2.2.2.2.2.2.2.1 x.2.2.2.2.2.2.2.2.2.2.2.2.2.1 x.2.2.2.2.2.2.2.2.2.2.2.2.2.2.1 x.2.2.2.2.2.2.2.2.2.2.2.2.2.2.2.1 x.2.2.2.2.2.2.2.2.2.2.2.2.2.2.2.2.1 x.2.2.2.2.2.2.2.2.2.2.2.2.2.2.2.2.2) (fun x h => by
    unfold f_ifilled_c_n3 at h
    exact f_ifilled_c_step3 x.1 x.2.1 x.2.2.1 x.2.2.2.1 x.2.2.2.2.1 x.2.2.2.2.2.1 x.2.2.2.2.2.2.1 x.2.2.2.2.2.2.2.1 x.2.2.2.2.2.2.2.2.1 x.2.2.2.2.2.2.2.2.2.1 x.2.2.2.2.2.2.2.2.2.2.1 x.2.2.2.2.2.2.2.2.2.2.2.1 x.2.2.2.2.2.2.2.2.2.2.2.2.1 x.2.2.2.2.2.2.2.2.2.2.2.2.2.1 x.2.2.2.2.2.2.2.2.2.2.2.2.2.2.1 x.2.2.2.2.2.2.2.2.2.2.2.2.2.2.2.1 x.2.2.2.2.2.2.2.2.2.2.2.2.2.2.2.2.1 x.2.2.2.2.2.2.2.2.2.2.2.2.2.2.2.2.2 r ((sem_cond h (fun h => (sem_cond h (fun h => (sem_cond h (fun h => (sem_cond h (fun h => sem_got h fun q => q) (fun h => (sem_bind h fun r2 h => (sem_cond h (fun h => (sem_cond h (fun h => (sem_cond h (fun h => sem_got h fun q => q) (fun h => sem_got h fun q => q))) (fun h => sem_none h))) (fun h => sem_none h)))))) (fun h => sem_none h))) (fun h => sem_none h))) (fun h => sem_got h fun q => some_eq q)))) FU x
noncomputable def s_ifilled_c (a0 : Int) (a1 : Int) (a2 : (Nat → Int)) (a3 : Int) (a4 : Int) (a5 : (Nat → Int)) (a6 : Int) (a7 : Int) : Option (Int × Int × (Nat → Int) × Int) := (Option.bind (s_iPicture_numbers a0 a1 a2) fun r1 => (f_ifilled_c_run3 (0, ((List.length r1 : Nat) : Int), 0, a3, a4, a5, a6, a7, a0, a1, a2, 0, 0, zF, a0, a1, a2, r1)))
theorem f_ifilled_c_top (a0 : Int) (a1 : Int) (a2 : (Nat → Int)) (a3 : Int) (a4 : Int) (a5 : (Nat → Int)) (a6 : Int) (a7 : Int) (r : List A) : ev f_ifilled_c_X (lpc (cnOf f_ifilled_c_LV) (f_ifilled_c_L r)) f_ifilled_c_c (K0 TT f_ifilled_c_rv) (enter [.rc [.v (.int .i8 a0), .v (.int .i8 a1), .fa 144 .u8 a2], .clo 96 [.ref (.rc [.v (.int .i8 a3), .v (.int .i8 a4), .fa 144 .u8 a5]), .ref (.v (.int .i64 a6)), .ref (.v (.int .i64 a7))]]) = (Option.bind (s_iPicture_numbers a0 a1 a2) fun r1 => (f_ifilled_c_L r 3 (f_ifilled_c_s3 0 ((List.length r1 : Nat) : Int) 0 a3 a4 a5 a6 a7 a0 a1 a2 0 0 zF a0 a1 a2 r1))) := by kernel_rfl
theorem s_ifilled_c_ok (a0 : Int) (a1 : Int) (a2 : (Nat → Int)) (a3 : Int) (a4 : Int) (a5 : (Nat → Int)) (a6 : Int) (a7 : Int) (v : (Int × Int × (Nat → Int) × Int)) (h : s_ifilled_c a0 a1 a2 a3 a4 a5 a6 a7 = some v) : (Option.bind (s_iPicture_numbers a0 a1 a2) fun r1 => (f_ifilled_c_L (l_ifilled_c v) 3 (f_ifilled_c_s3 0 ((List.length r1 : Nat) : Int) 0 a3 a4 a5 a6 a7 a0 a1 a2 0 0 zF a0 a1 a2 r1))) = some (l_ifilled_c v) := by
  unfold s_ifilled_c at h
  have go : ∀ r, sem (fun v => r = l_ifilled_c v) ((Option.bind (s_iPicture_numbers a0 a1 a2) fun r1 => (f_ifilled_c_run3 (0, ((List.length r1 : Nat) : Int), 0, a3, a4, a5, a6, a7, a0, a1, a2, 0, 0, zF, a0, a1, a2, r1)))) → (Option.bind (s_iPicture_numbers a0 a1 a2) fun r1 => (f_ifilled_c_L r 3 (f_ifilled_c_s3 0 ((List.length r1 : Nat) : Int) 0 a3 a4 a5 a6 a7 a0 a1 a2 0 0 zF a0 a1 a2 r1))) = some r := fun r h => (sem_bind h fun r1 h => f_ifilled_c_go3 r _ h)
  exact go (l_ifilled_c v) ⟨v, h, rfl⟩
noncomputable def c_ifilled_c : List A → ACall
  | [.rc [.v (.int .i8 a0), .v (.int .i8 a1), .fa 144 .u8 a2], .clo 96 [.ref (.rc [.v (.int .i8 a3), .v (.int .i8 a4), .fa 144 .u8 a5]), .ref (.v (.int .i64 a6)), .ref (.v (.int .i64 a7))]] => ⟨(Int × Int × (Nat → Int) × Int), s_ifilled_c a0 a1 a2 a3 a4 a5 a6 a7, fun r => .tup [.rc [.v (.int .i8 r.1), .v (.int .i8 r.2.1), .fa 144 .u8 r.2.2.1], .v (.int .i64 r.2.2.2)]⟩
  | _ => ACall.fail
theorem f_ifilled_c_sound : Sound Try.prog 67 c_ifilled_c := by
  refine sound_good f_ifilled_c_ctx f_ifilled_c_LV 2 Try.func67 (c := f_ifilled_c_c) (by kernel_rfl) (rv := f_ifilled_c_rv) (by kernel_rfl) (by kernel_rfl) (by kernel_rfl) (by kernel_rfl) fun rs => ?_
  unfold c_ifilled_c
  split
  · rename_i a0 a1 a2 a3 a4 a5 a6 a7; intro v h; exact ⟨rfl, l_ifilled_c v, rfl, (f_ifilled_c_top a0 a1 a2 a3 a4 a5 a6 a7 _).trans (s_ifilled_c_ok a0 a1 a2 a3 a4 a5 a6 a7 v h)⟩
  · intro v h; cases h
def m_ifilled_c : List A → Bool
  | [_, .clo 96 _] => true
  | _ => false

/-! ### function 49: loop.example/g01322/impl.FillByPeriods -/
noncomputable def f_iFillByPeriods_c : Code := match Try.f49.body with | some c => c | none => .skip
noncomputable def f_iFillByPeriods_X : Ctx := ⟨TT, phiOf [(67, c_ifilled_c), (62, c_icodeOf), (63, c_iValidPicture), (94, c_iPicture_arePeriods), (95, c_iPicture_conflict)], noPsi⟩
def f_iFillByPeriods_LV : List (Nat × Keep) := []
def f_iFillByPeriods_rv : List ResultVar := [.cell 6 27, .tmp 7, .tmp 8]
noncomputable def f_iFillByPeriods_L (r : List A) : Nat → AS → Option (List A) := L f_iFillByPeriods_X (cnOf f_iFillByPeriods_LV) f_iFillByPeriods_c (K0 TT f_iFillByPeriods_rv) r
theorem f_iFillByPeriods_ctx : CtxOK Try.prog f_iFillByPeriods_X := ctx_of tab mix ⟨⟨Try.call67, f_ifilled_c_sound⟩, ⟨Try.call62, f_icodeOf_sound⟩, ⟨Try.call63, f_iValidPicture_sound⟩, ⟨Try.call94, f_iPicture_arePeriods_sound⟩, ⟨Try.call95, f_iPicture_conflict_sound⟩, trivial⟩
noncomputable def s_iFillByPeriods (a0 : Int) (a1 : Int) (a2 : (Nat → Int)) (a3 : Int) (a4 : Int) : Option (Int × Int × (Nat → Int) × Int × Int) := (cond ((s_icodeOf (s_iValidPicture a0 a1 a2) (s_iPicture_arePeriods a0 a1 a2 a3 a4)) != 0) (some (0, 0, zF, 0, (s_icodeOf (s_iValidPicture a0 a1 a2) (s_iPicture_arePeriods a0 a1 a2 a3 a4)))) (Option.bind (s_iPicture_conflict a0 a1 a2 a3 a4) fun r1 => (cond r1.2.2 (some (0, 0, zF, 0, 8)) (Option.bind (s_ifilled_c a0 a1 a2 a0 a1 a2 a3 a4) fun r2 => (some ((r2.1), (r2.2.1), (r2.2.2.1), (r2.2.2.2), 0))))))
theorem f_iFillByPeriods_top (a0 : Int) (a1 : Int) (a2 : (Nat → Int)) (a3 : Int) (a4 : Int) (r : List A) : ev f_iFillByPeriods_X (lpc (cnOf f_iFillByPeriods_LV) (f_iFillByPeriods_L r)) f_iFillByPeriods_c (K0 TT f_iFillByPeriods_rv) (enter [.rc [.v (.int .i8 a0), .v (.int .i8 a1), .fa 144 .u8 a2], .v (.int .i64 a3), .v (.int .i64 a4)]) = (cond ((s_icodeOf (s_iValidPicture a0 a1 a2) (s_iPicture_arePeriods a0 a1 a2 a3 a4)) != 0) (some [.rc [.v (.int .i8 0), .v (.int .i8 0), .fa 144 .u8 zF], .v (.int .i64 0), .v (.int .i64 (s_icodeOf (s_iValidPicture a0 a1 a2) (s_iPicture_arePeriods a0 a1 a2 a3 a4)))]) (Option.bind (s_iPicture_conflict a0 a1 a2 a3 a4) fun r1 => (cond r1.2.2 (some [.rc [.v (.int .i8 0), .v (.int .i8 0), .fa 144 .u8 zF], .v (.int .i64 0), .v (.int .i64 8)]) (Option.bind (s_ifilled_c a0 a1 a2 a0 a1 a2 a3 a4) fun r2 => (some [.rc [.v (.int .i8 r2.1), .v (.int .i8 r2.2.1), .fa 144 .u8 r2.2.2.1], .v (.int .i64 r2.2.2.2), .v (.int .i64 0)]))))) := by kernel_rfl
noncomputable def l_iFillByPeriods (r : (Int × Int × (Nat → Int) × Int × Int)) : List A := [.rc [.v (.int .i8 r.1), .v (.int .i8 r.2.1), .fa 144 .u8 r.2.2.1], .v (.int .i64 r.2.2.2.1), .v (.int .i64 r.2.2.2.2)]
theorem s_iFillByPeriods_ok (a0 : Int) (a1 : Int) (a2 : (Nat → Int)) (a3 : Int) (a4 : Int) (v : (Int × Int × (Nat → Int) × Int × Int)) (h : s_iFillByPeriods a0 a1 a2 a3 a4 = some v) : (cond ((s_icodeOf (s_iValidPicture a0 a1 a2) (s_iPicture_arePeriods a0 a1 a2 a3 a4)) != 0) (some [.rc [.v (.int .i8 0), .v (.int .i8 0), .fa 144 .u8 zF], .v (.int .i64 0), .v (.int .i64 (s_icodeOf (s_iValidPicture a0 a1 a2) (s_iPicture_arePeriods a0 a1 a2 a3 a4)))]) (Option.bind (s_iPicture_conflict a0 a1 a2 a3 a4) fun r1 => (cond r1.2.2 (some [.rc [.v (.int .i8 0), .v (.int .i8 0), .fa 144 .u8 zF], .v (.int .i64 0), .v (.int .i64 8)]) (Option.bind (s_ifilled_c a0 a1 a2 a0 a1 a2 a3 a4) fun r2 => (some [.rc [.v (.int .i8 r2.1), .v (.int .i8 r2.2.1), .fa 144 .u8 r2.2.2.1], .v (.int .i64 r2.2.2.2), .v (.int .i64 0)]))))) = some (l_iFillByPeriods v) := by
  have e : (cond ((s_icodeOf (s_iValidPicture a0 a1 a2) (s_iPicture_arePeriods a0 a1 a2 a3 a4)) != 0) (some [.rc [.v (.int .i8 0), .v (.int .i8 0), .fa 144 .u8 zF], .v (.int .i64 0), .v (.int .i64 (s_icodeOf (s_iValidPicture a0 a1 a2) (s_iPicture_arePeriods a0 a1 a2 a3 a4)))]) (Option.bind (s_iPicture_conflict a0 a1 a2 a3 a4) fun r1 => (cond r1.2.2 (some [.rc [.v (.int .i8 0), .v (.int .i8 0), .fa 144 .u8 zF], .v (.int .i64 0), .v (.int .i64 8)]) (Option.bind (s_ifilled_c a0 a1 a2 a0 a1 a2 a3 a4) fun r2 => (some [.rc [.v (.int .i8 r2.1), .v (.int .i8 r2.2.1), .fa 144 .u8 r2.2.2.1], .v (.int .i64 r2.2.2.2), .v (.int .i64 0)]))))) = Option.map l_iFillByPeriods (s_iFillByPeriods a0 a1 a2 a3 a4) := by
    unfold s_iFillByPeriods
    exact (cond_app (Option.map l_iFillByPeriods) rfl (bind_app fun _ => (cond_app (Option.map l_iFillByPeriods) rfl (bind_app fun _ => rfl))))
  rw [e, h]; rfl
noncomputable def c_iFillByPeriods : List A → ACall
  | [.rc [.v (.int .i8 a0), .v (.int .i8 a1), .fa 144 .u8 a2], .v (.int .i64 a3), .v (.int .i64 a4)] => ⟨(Int × Int × (Nat → Int) × Int × Int), s_iFillByPeriods a0 a1 a2 a3 a4, fun r => .tup [.rc [.v (.int .i8 r.1), .v (.int .i8 r.2.1), .fa 144 .u8 r.2.2.1], .v (.int .i64 r.2.2.2.1), .v (.int .i64 r.2.2.2.2)]⟩
  | _ => ACall.fail
theorem f_iFillByPeriods_sound : Sound Try.prog 49 c_iFillByPeriods := by
  refine sound_good f_iFillByPeriods_ctx f_iFillByPeriods_LV 3 Try.func49 (c := f_iFillByPeriods_c) (by kernel_rfl) (rv := f_iFillByPeriods_rv) (by kernel_rfl) (by kernel_rfl) (by kernel_rfl) (by kernel_rfl) fun rs => ?_
  unfold c_iFillByPeriods
  split
  · rename_i a0 a1 a2 a3 a4; intro v h; exact ⟨rfl, l_iFillByPeriods v, rfl, (f_iFillByPeriods_top a0 a1 a2 a3 a4 _).trans (s_iFillByPeriods_ok a0 a1 a2 a3 a4 v h)⟩
  · intro v h; cases h

/-! ### function 11: loop.example/g01322/laws.FnExactFillByPeriods -/
noncomputable def f_wFnExactFillByPeriods_c : Code := match Try.f11.body with | some c => c | none => .skip
noncomputable def f_wFnExactFillByPeriods_X : Ctx := ⟨TT, phiOf [(16, c_wtoPicture), (19, c_weqPicture), (48, c_sFillByPeriods), (49, c_iFillByPeriods)], noPsi⟩
def f_wFnExactFillByPeriods_LV : List (Nat × Keep) := []
def f_wFnExactFillByPeriods_rv : List ResultVar := [.tmp 6]
noncomputable def f_wFnExactFillByPeriods_L (r : List A) : Nat → AS → Option (List A) := L f_wFnExactFillByPeriods_X (cnOf f_wFnExactFillByPeriods_LV) f_wFnExactFillByPeriods_c (K0 TT f_wFnExactFillByPeriods_rv) r
theorem f_wFnExactFillByPeriods_ctx : CtxOK Try.prog f_wFnExactFillByPeriods_X := ctx_of tab mix ⟨⟨Try.call16, f_wtoPicture_sound⟩, ⟨Try.call19, f_weqPicture_sound⟩, ⟨Try.call48, f_sFillByPeriods_sound⟩, ⟨Try.call49, f_iFillByPeriods_sound⟩, trivial⟩
noncomputable def s_wFnExactFillByPeriods (a0 : Int) (a1 : Int) (a2 : (Nat → Int)) (a3 : Int) (a4 : Int) : Option Bool := (Option.bind (s_sFillByPeriods (s_wtoPicture a0 a1 a2).1 (s_wtoPicture a0 a1 a2).2.1 (s_wtoPicture a0 a1 a2).2.2 a3 a4) fun r1 => (Option.bind (s_iFillByPeriods (s_wtoPicture a0 a1 a2).1 (s_wtoPicture a0 a1 a2).2.1 (s_wtoPicture a0 a1 a2).2.2 a3 a4) fun r2 => (Option.bind (s_weqPicture (r2.1) (r2.2.1) (r2.2.2.1) (r1.1) (r1.2.1) (r1.2.2.1)) fun r3 => (cond (!r3) (some false) (cond (r2.2.2.2.1 != r1.2.2.2.1) (some false) (cond (r2.2.2.2.2 != r1.2.2.2.2) (some false) (some true)))))))
theorem f_wFnExactFillByPeriods_top (a0 : Int) (a1 : Int) (a2 : (Nat → Int)) (a3 : Int) (a4 : Int) (r : List A) : ev f_wFnExactFillByPeriods_X (lpc (cnOf f_wFnExactFillByPeriods_LV) (f_wFnExactFillByPeriods_L r)) f_wFnExactFillByPeriods_c (K0 TT f_wFnExactFillByPeriods_rv) (enter [.rc [.v (.int .i8 a0), .v (.int .i8 a1), .fa 144 .u8 a2], .v (.int .i64 a3), .v (.int .i64 a4)]) = (Option.bind (s_sFillByPeriods (s_wtoPicture a0 a1 a2).1 (s_wtoPicture a0 a1 a2).2.1 (s_wtoPicture a0 a1 a2).2.2 a3 a4) fun r1 => (Option.bind (s_iFillByPeriods (s_wtoPicture a0 a1 a2).1 (s_wtoPicture a0 a1 a2).2.1 (s_wtoPicture a0 a1 a2).2.2 a3 a4) fun r2 => (Option.bind (s_weqPicture (r2.1) (r2.2.1) (r2.2.2.1) (r1.1) (r1.2.1) (r1.2.2.1)) fun r3 => (cond (!r3) (some [.v (.bool false)]) (cond (r2.2.2.2.1 != r1.2.2.2.1) (some [.v (.bool false)]) (cond (r2.2.2.2.2 != r1.2.2.2.2) (some [.v (.bool false)]) (some [.v (.bool true)]))))))) := by kernel_rfl
noncomputable def l_wFnExactFillByPeriods (r : Bool) : List A := [.v (.bool r)]
theorem s_wFnExactFillByPeriods_ok (a0 : Int) (a1 : Int) (a2 : (Nat → Int)) (a3 : Int) (a4 : Int) (v : Bool) (h : s_wFnExactFillByPeriods a0 a1 a2 a3 a4 = some v) : (Option.bind (s_sFillByPeriods (s_wtoPicture a0 a1 a2).1 (s_wtoPicture a0 a1 a2).2.1 (s_wtoPicture a0 a1 a2).2.2 a3 a4) fun r1 => (Option.bind (s_iFillByPeriods (s_wtoPicture a0 a1 a2).1 (s_wtoPicture a0 a1 a2).2.1 (s_wtoPicture a0 a1 a2).2.2 a3 a4) fun r2 => (Option.bind (s_weqPicture (r2.1) (r2.2.1) (r2.2.2.1) (r1.1) (r1.2.1) (r1.2.2.1)) fun r3 => (cond (!r3) (some [.v (.bool false)]) (cond (r2.2.2.2.1 != r1.2.2.2.1) (some [.v (.bool false)]) (cond (r2.2.2.2.2 != r1.2.2.2.2) (some [.v (.bool false)]) (some [.v (.bool true)]))))))) = some (l_wFnExactFillByPeriods v) := by
  have e : (Option.bind (s_sFillByPeriods (s_wtoPicture a0 a1 a2).1 (s_wtoPicture a0 a1 a2).2.1 (s_wtoPicture a0 a1 a2).2.2 a3 a4) fun r1 => (Option.bind (s_iFillByPeriods (s_wtoPicture a0 a1 a2).1 (s_wtoPicture a0 a1 a2).2.1 (s_wtoPicture a0 a1 a2).2.2 a3 a4) fun r2 => (Option.bind (s_weqPicture (r2.1) (r2.2.1) (r2.2.2.1) (r1.1) (r1.2.1) (r1.2.2.1)) fun r3 => (cond (!r3) (some [.v (.bool false)]) (cond (r2.2.2.2.1 != r1.2.2.2.1) (some [.v (.bool false)]) (cond (r2.2.2.2.2 != r1.2.2.2.2) (some [.v (.bool false)]) (some [.v (.bool true)]))))))) = Option.map l_wFnExactFillByPeriods (s_wFnExactFillByPeriods a0 a1 a2 a3 a4) := by
    unfold s_wFnExactFillByPeriods
    exact (bind_app fun _ => (bind_app fun _ => (bind_app fun _ => (cond_app (Option.map l_wFnExactFillByPeriods) rfl (cond_app (Option.map l_wFnExactFillByPeriods) rfl (cond_app (Option.map l_wFnExactFillByPeriods) rfl rfl))))))
  rw [e, h]; rfl
noncomputable def c_wFnExactFillByPeriods : List A → ACall
  | [.rc [.v (.int .i8 a0), .v (.int .i8 a1), .fa 144 .u8 a2], .v (.int .i64 a3), .v (.int .i64 a4)] => ⟨Bool, s_wFnExactFillByPeriods a0 a1 a2 a3 a4, fun r => .one (.v (.bool r))⟩
  | _ => ACall.fail
theorem f_wFnExactFillByPeriods_sound : Sound Try.prog 11 c_wFnExactFillByPeriods := by
  refine sound_good f_wFnExactFillByPeriods_ctx f_wFnExactFillByPeriods_LV 3 Try.func11 (c := f_wFnExactFillByPeriods_c) (by kernel_rfl) (rv := f_wFnExactFillByPeriods_rv) (by kernel_rfl) (by kernel_rfl) (by kernel_rfl) (by kernel_rfl) fun rs => ?_
  unfold c_wFnExactFillByPeriods
  split
  · rename_i a0 a1 a2 a3 a4; intro v h; exact ⟨rfl, l_wFnExactFillByPeriods v, rfl, (f_wFnExactFillByPeriods_top a0 a1 a2 a3 a4 _).trans (s_wFnExactFillByPeriods_ok a0 a1 a2 a3 a4 v h)⟩
  · intro v h; cases h
end Go.RR
