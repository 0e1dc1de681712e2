/- Rows of a text, rows as texts. -/
import Derived.Test.YtbmaolhjplapoaaGreatDoorVa
import Derived.Test.YtbmaolhjplapoaaGreatDoorRw
set_option linter.unusedVariables false
set_option linter.unusedSimpArgs false
set_option linter.unusedSectionVars false
set_option maxRecDepth 100000
namespace Go.RR
open Go Go.Proofs
noncomputable def f_q1n_c : Code := match Tryz.f84.body with | some c => c | none => .skip
noncomputable def f_q1n_X : Ctx := ⟨TT, phiOf [], noPsi, noXi⟩
def f_q1n_LV : List (Nat × Keep) := []
def f_q1n_rv : List ResultVar := [.tmp 6]
noncomputable def f_q1n_L (r : List A) : Nat → AS → Option (List A) := L f_q1n_X (cnOf f_q1n_LV) f_q1n_c (K0 TT f_q1n_rv) r
theorem f_q1n_ctx : CtxOK Tryz.prog f_q1n_X := ctx_of tab mix trivial
noncomputable def s_q1n (a0 a1 a2 : Int) : Bool := (cond (decide (a1 ≤ a0)) (decide (a0 ≤ a2)) false)
theorem f_q1n_top (a0 a1 a2 : Int) (r : List A) : ev f_q1n_X (lpc (cnOf f_q1n_LV) (f_q1n_L r)) f_q1n_c (K0 TT f_q1n_rv) (enter [.v (.int .i64 a0), .v (.int .i64 a1), .v (.int .i64 a2)]) = (cond (decide (a1 ≤ a0)) (some [.v (.bool (decide (a0 ≤ a2)))]) (some [.v (.bool false)])) := by kernel_rfl
noncomputable def l_q1n (r : Bool) : List A := [.v (.bool r)]
theorem s_q1n_ok (a0 a1 a2 : Int) : (cond (decide (a1 ≤ a0)) (some [.v (.bool (decide (a0 ≤ a2)))]) (some [.v (.bool false)])) = some (l_q1n (s_q1n a0 a1 a2)) := by
 unfold s_q1n
 exact (cond_app (fun x => some (l_q1n x)) rfl rfl)
noncomputable def c_q1n : List A → ACall
 | [.v (.int .i64 a0), .v (.int .i64 a1), .v (.int .i64 a2)] => ⟨Bool, some (s_q1n a0 a1 a2), fun r => .one (.v (.bool r))⟩
 | _ => ACall.fail
theorem f_q1n_sound : Sound Tryz.prog 84 c_q1n := by
 refine sound_good f_q1n_ctx f_q1n_LV 3 Tryz.func84 (c := f_q1n_c) (by kernel_rfl) (rv := f_q1n_rv) (by kernel_rfl) (by kernel_rfl) (by kernel_rfl) (by kernel_rfl) fun rs => ?_
 unfold c_q1n
 split
 ·rename_i a0 a1 a2; intro v h; cases h; exact ⟨rfl, l_q1n (s_q1n a0 a1 a2), rfl, (f_q1n_top a0 a1 a2 _).trans (s_q1n_ok a0 a1 a2)⟩
 ·intro v h; cases h
noncomputable def f_q0r_c : Code := match Tryz.f163.body with | some c => c | none => .skip
noncomputable def f_q0r_X : Ctx := ⟨TT, phiOf [(84, c_q1n)], noPsi, noXi⟩
def f_q0r_LV : List (Nat × Keep) := []
def f_q0r_rv : List ResultVar := [.tmp 2]
noncomputable def f_q0r_L (r : List A) : Nat → AS → Option (List A) := L f_q0r_X (cnOf f_q0r_LV) f_q0r_c (K0 TT f_q0r_rv) r
theorem f_q0r_ctx : CtxOK Tryz.prog f_q0r_X := ctx_of tab mix ⟨⟨Tryz.call84, f_q1n_sound⟩, trivial⟩
noncomputable def s_q0r (a0 : Int) : Bool := (!(s_q1n a0 1 200))
theorem f_q0r_top (a0 : Int) (r : List A) : ev f_q0r_X (lpc (cnOf f_q0r_LV) (f_q0r_L r)) f_q0r_c (K0 TT f_q0r_rv) (enter [.v (.int .i64 a0)]) = (some [.v (.bool (!(s_q1n a0 1 200)))]) := by kernel_rfl
noncomputable def l_q0r (r : Bool) : List A := [.v (.bool r)]
theorem s_q0r_ok (a0 : Int) : (some [.v (.bool (!(s_q1n a0 1 200)))]) = some (l_q0r (s_q0r a0)) := by
 unfold s_q0r
 exact rfl
noncomputable def c_q0r : List A → ACall
 | [.v (.int .i64 a0)] => ⟨Bool, some (s_q0r a0), fun r => .one (.v (.bool r))⟩
 | _ => ACall.fail
theorem f_q0r_sound : Sound Tryz.prog 163 c_q0r := by
 refine sound_good f_q0r_ctx f_q0r_LV 1 Tryz.func163 (c := f_q0r_c) (by kernel_rfl) (rv := f_q0r_rv) (by kernel_rfl) (by kernel_rfl) (by kernel_rfl) (by kernel_rfl) fun rs => ?_
 unfold c_q0r
 split
 ·rename_i a0; intro v h; cases h; exact ⟨rfl, l_q0r (s_q0r a0), rfl, (f_q0r_top a0 _).trans (s_q0r_ok a0)⟩
 ·intro v h; cases h
noncomputable def f_q05_c : Code := match Tryz.f90.body with | some c => c | none => .skip
noncomputable def f_q05_X : Ctx := ⟨TT, phiOf [(163, c_q0r)], noPsi, noXi⟩
def f_q05_LV : List (Nat × Keep) := [(2, ([0, 1, 7, 8], [], []))]
def f_q05_rv : List ResultVar := [.tmp 4]
noncomputable def f_q05_L (r : List A) : Nat → AS → Option (List A) := L f_q05_X (cnOf f_q05_LV) f_q05_c (K0 TT f_q05_rv) r
theorem f_q05_ctx : CtxOK Tryz.prog f_q05_X := ctx_of tab mix ⟨⟨Tryz.call163, f_q0r_sound⟩, trivial⟩
noncomputable def f_q05_s2 (x0 x1 : Int) (x2 : List Int) : AS := ⟨[(0, .a (.sl 0)), (1, .a (.clo 163 [])), (7, .a (.v (.int .i64 x0))), (8, .a (.v (.int .i64 x1)))], [(0, some ⟨false, .arr (.one (.i .i64)) x2⟩)], 1⟩
noncomputable def l_q05 (r : Int) : List A := [.v (.int .i64 r)]
theorem f_q05_step2 (x0 x1 : Int) (x2 : List Int) (r : List A) (h : (cond (decide (x1 < x0)) (cond (inB x1 (List.length x2)) (cond (s_q0r (List.getD x2 (Int.toNat x1) 0)) (some [.v (.int .i64 x1)]) (f_q05_L r 2 (f_q05_s2 x0 (IntKind.wrap .i64 (x1 + 1)) x2))) none) (some [.v (.int .i64 (-1))])) = some r) : f_q05_L r 2 (f_q05_s2 x0 x1 x2) = some r :=
 step_of' h (by kernel_rfl)
noncomputable def f_q05_n2 (x0 x1 : Int) (x2 : List Int) : Option ((Int × Int × (List Int)) ⊕ Int) := (cond (decide (x1 < x0)) (cond (inB x1 (List.length x2)) (cond (s_q0r (List.getD x2 (Int.toNat x1) 0)) (some (Sum.inr x1)) (some (Sum.inl (x0, (IntKind.wrap .i64 (x1 + 1)), x2)))) none) (some (Sum.inr (-1))))
noncomputable def f_q05_run2 (x : (Int × Int × (List Int))) : Option Int := iter (fun x => f_q05_n2 x.1 x.2.1 x.2.2) FU x
noncomputable def f_q05_G2 (r : List A) (x : (Int × Int × (List Int))) : Prop := f_q05_L r 2 (f_q05_s2 x.1 x.2.1 x.2.2) = some r
noncomputable def f_q05_S2 (r : List A) : Int → Prop := fun v => r = l_q05 v
theorem f_q05_go2 (r : List A) : ∀ x, sem (f_q05_S2 r) (f_q05_run2 x) → f_q05_G2 r x :=
 fun x => iter_sound (step := fun x => f_q05_n2 x.1 x.2.1 x.2.2) (fun x h => by
  unfold f_q05_n2 at h
  exact f_q05_step2 x.1 x.2.1 x.2.2 r ((sem_cond h (fun h => (sem_cond h (fun h => (sem_cond h (fun h => sem_got h fun q => some_eq q) (fun h => sem_got h fun q => q))) (fun h => sem_none h))) (fun h => sem_got h fun q => some_eq q)))) FU x
noncomputable def s_q05 (a0 : List Int) : Option Int := (f_q05_run2 (((List.length a0 : Nat) : Int), 0, a0))
theorem f_q05_top (a0 : List Int) (r : List A) : ev f_q05_X (lpc (cnOf f_q05_LV) (f_q05_L r)) f_q05_c (K0 TT f_q05_rv) (enter [.lst (.one (.i .i64)) a0, .clo 163 []]) = (f_q05_L r 2 (f_q05_s2 ((List.length a0 : Nat) : Int) 0 a0)) := by kernel_rfl
theorem s_q05_ok (a0 : List Int) (v : Int) (h : s_q05 a0 = some v) : (f_q05_L (l_q05 v) 2 (f_q05_s2 ((List.length a0 : Nat) : Int) 0 a0)) = some (l_q05 v) := by
 unfold s_q05 at h
 have go : ∀ r, sem (fun v => r = l_q05 v) ((f_q05_run2 (((List.length a0 : Nat) : Int), 0, a0))) → (f_q05_L r 2 (f_q05_s2 ((List.length a0 : Nat) : Int) 0 a0)) = some r := fun r h => f_q05_go2 r _ h
 exact go (l_q05 v) ⟨v, h, rfl⟩
noncomputable def c_q05 : List A → ACall
 | [.lst (.one (.i .i64)) a0, .clo 163 []] => ⟨Int, s_q05 a0, fun r => .one (.v (.int .i64 r))⟩
 | _ => ACall.fail
theorem f_q05_sound : Sound Tryz.prog 90 c_q05 := by
 refine sound_good f_q05_ctx f_q05_LV 2 Tryz.func90 (c := f_q05_c) (by kernel_rfl) (rv := f_q05_rv) (by kernel_rfl) (by kernel_rfl) (by kernel_rfl) (by kernel_rfl) fun rs => ?_
 unfold c_q05
 split
 ·rename_i a0; intro v h; exact ⟨rfl, l_q05 v, rfl, (f_q05_top a0 _).trans (s_q05_ok a0 v h)⟩
 ·intro v h; cases h
noncomputable def f_q02_c : Code := match Tryz.f162.body with | some c => c | none => .skip
noncomputable def f_q02_X : Ctx := ⟨TT, phiOf [(90, c_q05)], noPsi, noXi⟩
def f_q02_LV : List (Nat × Keep) := []
def f_q02_rv : List ResultVar := [.tmp 4]
noncomputable def f_q02_L (r : List A) : Nat → AS → Option (List A) := L f_q02_X (cnOf f_q02_LV) f_q02_c (K0 TT f_q02_rv) r
theorem f_q02_ctx : CtxOK Tryz.prog f_q02_X := ctx_of tab mix ⟨⟨Tryz.call90, f_q05_sound⟩, trivial⟩
noncomputable def s_q02 (a0 : List Int) : Option Bool := (Option.bind (s_q05 a0) fun r1 => (some (decide (r1 ≥ 0))))
theorem f_q02_top (a0 : List Int) (r : List A) : ev f_q02_X (lpc (cnOf f_q02_LV) (f_q02_L r)) f_q02_c (K0 TT f_q02_rv) (enter [.lst (.one (.i .i64)) a0, .clo 163 []]) = (Option.bind (s_q05 a0) fun r1 => (some [.v (.bool (decide (r1 ≥ 0)))])) := by kernel_rfl
noncomputable def l_q02 (r : Bool) : List A := [.v (.bool r)]
theorem s_q02_ok (a0 : List Int) (v : Bool) (h : s_q02 a0 = some v) : (Option.bind (s_q05 a0) fun r1 => (some [.v (.bool (decide (r1 ≥ 0)))])) = some (l_q02 v) := by
 have e : (Option.bind (s_q05 a0) fun r1 => (some [.v (.bool (decide (r1 ≥ 0)))])) = Option.map l_q02 (s_q02 a0) := by
  unfold s_q02
  exact (bind_app fun _ => rfl)
 rw [e, h]; rfl
noncomputable def c_q02 : List A → ACall
 | [.lst (.one (.i .i64)) a0, .clo 163 []] => ⟨Bool, s_q02 a0, fun r => .one (.v (.bool r))⟩
 | _ => ACall.fail
theorem f_q02_sound : Sound Tryz.prog 162 c_q02 := by
 refine sound_good f_q02_ctx f_q02_LV 2 Tryz.func162 (c := f_q02_c) (by kernel_rfl) (rv := f_q02_rv) (by kernel_rfl) (by kernel_rfl) (by kernel_rfl) (by kernel_rfl) fun rs => ?_
 unfold c_q02
 split
 ·rename_i a0; intro v h; exact ⟨rfl, l_q02 v, rfl, (f_q02_top a0 _).trans (s_q02_ok a0 v h)⟩
 ·intro v h; cases h
noncomputable def f_q1a_c : Code := match Tryz.f87.body with | some c => c | none => .skip
noncomputable def f_q1a_X : Ctx := ⟨TT, phiOf [(162, c_q02)], noPsi, noXi⟩
def f_q1a_LV : List (Nat × Keep) := []
def f_q1a_rv : List ResultVar := [.tmp 2]
noncomputable def f_q1a_L (r : List A) : Nat → AS → Option (List A) := L f_q1a_X (cnOf f_q1a_LV) f_q1a_c (K0 TT f_q1a_rv) r
theorem f_q1a_ctx : CtxOK Tryz.prog f_q1a_X := ctx_of tab mix ⟨⟨Tryz.call162, f_q02_sound⟩, trivial⟩
noncomputable def s_q1a (a0 : List Int) : Option Bool := (Option.bind (s_q02 a0) fun r1 => (some (!r1)))
theorem f_q1a_top (a0 : List Int) (r : List A) : ev f_q1a_X (lpc (cnOf f_q1a_LV) (f_q1a_L r)) f_q1a_c (K0 TT f_q1a_rv) (enter [.lst (.one (.i .i64)) a0]) = (Option.bind (s_q02 a0) fun r1 => (some [.v (.bool (!r1))])) := by kernel_rfl
noncomputable def l_q1a (r : Bool) : List A := [.v (.bool r)]
theorem s_q1a_ok (a0 : List Int) (v : Bool) (h : s_q1a a0 = some v) : (Option.bind (s_q02 a0) fun r1 => (some [.v (.bool (!r1))])) = some (l_q1a v) := by
 have e : (Option.bind (s_q02 a0) fun r1 => (some [.v (.bool (!r1))])) = Option.map l_q1a (s_q1a a0) := by
  unfold s_q1a
  exact (bind_app fun _ => rfl)
 rw [e, h]; rfl
noncomputable def c_q1a : List A → ACall
 | [.lst (.one (.i .i64)) a0] => ⟨Bool, s_q1a a0, fun r => .one (.v (.bool r))⟩
 | _ => ACall.fail
theorem f_q1a_sound : Sound Tryz.prog 87 c_q1a := by
 refine sound_good f_q1a_ctx f_q1a_LV 1 Tryz.func87 (c := f_q1a_c) (by kernel_rfl) (rv := f_q1a_rv) (by kernel_rfl) (by kernel_rfl) (by kernel_rfl) (by kernel_rfl) fun rs => ?_
 unfold c_q1a
 split
 ·rename_i a0; intro v h; exact ⟨rfl, l_q1a v, rfl, (f_q1a_top a0 _).trans (s_q1a_ok a0 v h)⟩
 ·intro v h; cases h
noncomputable def f_q0l_c : Code := match Tryz.f86.body with | some c => c | none => .skip
noncomputable def f_q0l_X : Ctx := ⟨TT, phiOf [(87, c_q1a)], noPsi, noXi⟩
def f_q0l_LV : List (Nat × Keep) := []
def f_q0l_rv : List ResultVar := [.tmp 2]
noncomputable def f_q0l_L (r : List A) : Nat → AS → Option (List A) := L f_q0l_X (cnOf f_q0l_LV) f_q0l_c (K0 TT f_q0l_rv) r
theorem f_q0l_ctx : CtxOK Tryz.prog f_q0l_X := ctx_of tab mix ⟨⟨Tryz.call87, f_q1a_sound⟩, trivial⟩
noncomputable def s_q0l (a0 : Int) : Option Bool := (Option.bind (s_q1a [(IntKind.wrap .i64 a0)]) fun r1 => (some (!r1)))
theorem f_q0l_top (a0 : Int) (r : List A) : ev f_q0l_X (lpc (cnOf f_q0l_LV) (f_q0l_L r)) f_q0l_c (K0 TT f_q0l_rv) (enter [.v (.int .i16 a0)]) = (Option.bind (s_q1a [(IntKind.wrap .i64 a0)]) fun r1 => (some [.v (.bool (!r1))])) := by kernel_rfl
noncomputable def l_q0l (r : Bool) : List A := [.v (.bool r)]
theorem s_q0l_ok (a0 : Int) (v : Bool) (h : s_q0l a0 = some v) : (Option.bind (s_q1a [(IntKind.wrap .i64 a0)]) fun r1 => (some [.v (.bool (!r1))])) = some (l_q0l v) := by
 have e : (Option.bind (s_q1a [(IntKind.wrap .i64 a0)]) fun r1 => (some [.v (.bool (!r1))])) = Option.map l_q0l (s_q0l a0) := by
  unfold s_q0l
  exact (bind_app fun _ => rfl)
 rw [e, h]; rfl
noncomputable def c_q0l : List A → ACall
 | [.v (.int .i16 a0)] => ⟨Bool, s_q0l a0, fun r => .one (.v (.bool r))⟩
 | _ => ACall.fail
theorem f_q0l_sound : Sound Tryz.prog 86 c_q0l := by
 refine sound_good f_q0l_ctx f_q0l_LV 1 Tryz.func86 (c := f_q0l_c) (by kernel_rfl) (rv := f_q0l_rv) (by kernel_rfl) (by kernel_rfl) (by kernel_rfl) (by kernel_rfl) fun rs => ?_
 unfold c_q0l
 split
 ·rename_i a0; intro v h; exact ⟨rfl, l_q0l v, rfl, (f_q0l_top a0 _).trans (s_q0l_ok a0 v h)⟩
 ·intro v h; cases h
noncomputable def f_q03_c : Code := match Tryz.f161.body with | some c => c | none => .skip
noncomputable def f_q03_X : Ctx := ⟨TT, phiOf [(86, c_q0l)], noPsi, noXi⟩
def f_q03_LV : List (Nat × Keep) := [(2, ([0, 1, 7, 8], [], []))]
def f_q03_rv : List ResultVar := [.tmp 4]
noncomputable def f_q03_L (r : List A) : Nat → AS → Option (List A) := L f_q03_X (cnOf f_q03_LV) f_q03_c (K0 TT f_q03_rv) r
theorem f_q03_ctx : CtxOK Tryz.prog f_q03_X := ctx_of tab mix ⟨⟨Tryz.call86, f_q0l_sound⟩, trivial⟩
noncomputable def f_q03_s2 (x0 x1 : Int) (x2 : List Int) : AS := ⟨[(0, .a (.sl 0)), (1, .a (.clo 86 [])), (7, .a (.v (.int .i64 x0))), (8, .a (.v (.int .i64 x1)))], [(0, some ⟨false, .arr (.one (.i .i16)) x2⟩)], 1⟩
noncomputable def l_q03 (r : Int) : List A := [.v (.int .i64 r)]
theorem f_q03_step2 (x0 x1 : Int) (x2 : List Int) (r : List A) (h : (cond (decide (x1 < x0)) (cond (inB x1 (List.length x2)) (Option.bind (s_q0l (List.getD x2 (Int.toNat x1) 0)) fun r1 => (cond r1 (some [.v (.int .i64 x1)]) (f_q03_L r 2 (f_q03_s2 x0 (IntKind.wrap .i64 (x1 + 1)) x2)))) none) (some [.v (.int .i64 (-1))])) = some r) : f_q03_L r 2 (f_q03_s2 x0 x1 x2) = some r :=
 step_of' h (by kernel_rfl)
noncomputable def f_q03_n2 (x0 x1 : Int) (x2 : List Int) : Option ((Int × Int × (List Int)) ⊕ Int) := (cond (decide (x1 < x0)) (cond (inB x1 (List.length x2)) (Option.bind (s_q0l (List.getD x2 (Int.toNat x1) 0)) fun r1 => (cond r1 (some (Sum.inr x1)) (some (Sum.inl (x0, (IntKind.wrap .i64 (x1 + 1)), x2))))) none) (some (Sum.inr (-1))))
noncomputable def f_q03_run2 (x : (Int × Int × (List Int))) : Option Int := iter (fun x => f_q03_n2 x.1 x.2.1 x.2.2) FU x
noncomputable def f_q03_G2 (r : List A) (x : (Int × Int × (List Int))) : Prop := f_q03_L r 2 (f_q03_s2 x.1 x.2.1 x.2.2) = some r
noncomputable def f_q03_S2 (r : List A) : Int → Prop := fun v => r = l_q03 v
theorem f_q03_go2 (r : List A) : ∀ x, sem (f_q03_S2 r) (f_q03_run2 x) → f_q03_G2 r x :=
 fun x => iter_sound (step := fun x => f_q03_n2 x.1 x.2.1 x.2.2) (fun x h => by
  unfold f_q03_n2 at h
  exact f_q03_step2 x.1 x.2.1 x.2.2 r ((sem_cond h (fun h => (sem_cond h (fun h => (sem_bind h fun r1 h => (sem_cond h (fun h => sem_got h fun q => some_eq q) (fun h => sem_got h fun q => q)))) (fun h => sem_none h))) (fun h => sem_got h fun q => some_eq q)))) FU x
noncomputable def s_q03 (a0 : List Int) : Option Int := (f_q03_run2 (((List.length a0 : Nat) : Int), 0, a0))
theorem f_q03_top (a0 : List Int) (r : List A) : ev f_q03_X (lpc (cnOf f_q03_LV) (f_q03_L r)) f_q03_c (K0 TT f_q03_rv) (enter [.lst (.one (.i .i16)) a0, .clo 86 []]) = (f_q03_L r 2 (f_q03_s2 ((List.length a0 : Nat) : Int) 0 a0)) := by kernel_rfl
theorem s_q03_ok (a0 : List Int) (v : Int) (h : s_q03 a0 = some v) : (f_q03_L (l_q03 v) 2 (f_q03_s2 ((List.length a0 : Nat) : Int) 0 a0)) = some (l_q03 v) := by
 unfold s_q03 at h
 have go : ∀ r, sem (fun v => r = l_q03 v) ((f_q03_run2 (((List.length a0 : Nat) : Int), 0, a0))) → (f_q03_L r 2 (f_q03_s2 ((List.length a0 : Nat) : Int) 0 a0)) = some r := fun r h => f_q03_go2 r _ h
 exact go (l_q03 v) ⟨v, h, rfl⟩
noncomputable def c_q03 : List A → ACall
 | [.lst (.one (.i .i16)) a0, .clo 86 []] => ⟨Int, s_q03 a0, fun r => .one (.v (.int .i64 r))⟩
 | _ => ACall.fail
theorem f_q03_sound : Sound Tryz.prog 161 c_q03 := by
 refine sound_good f_q03_ctx f_q03_LV 2 Tryz.func161 (c := f_q03_c) (by kernel_rfl) (rv := f_q03_rv) (by kernel_rfl) (by kernel_rfl) (by kernel_rfl) (by kernel_rfl) fun rs => ?_
 unfold c_q03
 split
 ·rename_i a0; intro v h; exact ⟨rfl, l_q03 v, rfl, (f_q03_top a0 _).trans (s_q03_ok a0 v h)⟩
 ·intro v h; cases h
noncomputable def f_q00_c : Code := match Tryz.f85.body with | some c => c | none => .skip
noncomputable def f_q00_X : Ctx := ⟨TT, phiOf [(161, c_q03)], noPsi, noXi⟩
def f_q00_LV : List (Nat × Keep) := []
def f_q00_rv : List ResultVar := [.tmp 4]
noncomputable def f_q00_L (r : List A) : Nat → AS → Option (List A) := L f_q00_X (cnOf f_q00_LV) f_q00_c (K0 TT f_q00_rv) r
theorem f_q00_ctx : CtxOK Tryz.prog f_q00_X := ctx_of tab mix ⟨⟨Tryz.call161, f_q03_sound⟩, trivial⟩
noncomputable def s_q00 (a0 : List Int) : Option Bool := (Option.bind (s_q03 a0) fun r1 => (some (decide (r1 ≥ 0))))
theorem f_q00_top (a0 : List Int) (r : List A) : ev f_q00_X (lpc (cnOf f_q00_LV) (f_q00_L r)) f_q00_c (K0 TT f_q00_rv) (enter [.lst (.one (.i .i16)) a0, .clo 86 []]) = (Option.bind (s_q03 a0) fun r1 => (some [.v (.bool (decide (r1 ≥ 0)))])) := by kernel_rfl
noncomputable def l_q00 (r : Bool) : List A := [.v (.bool r)]
theorem s_q00_ok (a0 : List Int) (v : Bool) (h : s_q00 a0 = some v) : (Option.bind (s_q03 a0) fun r1 => (some [.v (.bool (decide (r1 ≥ 0)))])) = some (l_q00 v) := by
 have e : (Option.bind (s_q03 a0) fun r1 => (some [.v (.bool (decide (r1 ≥ 0)))])) = Option.map l_q00 (s_q00 a0) := by
  unfold s_q00
  exact (bind_app fun _ => rfl)
 rw [e, h]; rfl
noncomputable def c_q00 : List A → ACall
 | [.lst (.one (.i .i16)) a0, .clo 86 []] => ⟨Bool, s_q00 a0, fun r => .one (.v (.bool r))⟩
 | _ => ACall.fail
theorem f_q00_sound : Sound Tryz.prog 85 c_q00 := by
 refine sound_good f_q00_ctx f_q00_LV 2 Tryz.func85 (c := f_q00_c) (by kernel_rfl) (rv := f_q00_rv) (by kernel_rfl) (by kernel_rfl) (by kernel_rfl) (by kernel_rfl) fun rs => ?_
 unfold c_q00
 split
 ·rename_i a0; intro v h; exact ⟨rfl, l_q00 v, rfl, (f_q00_top a0 _).trans (s_q00_ok a0 v h)⟩
 ·intro v h; cases h
noncomputable def f_q0x_c : Code := match Tryz.f16.body with | some c => c | none => .skip
noncomputable def f_q0x_X : Ctx := ⟨TT, phiOf [(85, c_q00), (84, c_q1n)], noPsi, noXi⟩
def f_q0x_LV : List (Nat × Keep) := []
def f_q0x_rv : List ResultVar := [.tmp 2]
noncomputable def f_q0x_L (r : List A) : Nat → AS → Option (List A) := L f_q0x_X (cnOf f_q0x_LV) f_q0x_c (K0 TT f_q0x_rv) r
theorem f_q0x_ctx : CtxOK Tryz.prog f_q0x_X := ctx_of tab mix ⟨⟨Tryz.call85, f_q00_sound⟩, ⟨Tryz.call84, f_q1n_sound⟩, trivial⟩
noncomputable def s_q0x (a0 : List Int) : Option Bool := (cond (s_q1n ((List.length a0 : Nat) : Int) 1 60) (Option.bind (s_q00 a0) fun r1 => (some (!r1))) (some false))
theorem f_q0x_top (a0 : List Int) (r : List A) : ev f_q0x_X (lpc (cnOf f_q0x_LV) (f_q0x_L r)) f_q0x_c (K0 TT f_q0x_rv) (enter [.lst (.one (.i .i16)) a0]) = (cond (s_q1n ((List.length a0 : Nat) : Int) 1 60) (Option.bind (s_q00 a0) fun r1 => (some [.v (.bool (!r1))])) (some [.v (.bool false)])) := by kernel_rfl
noncomputable def l_q0x (r : Bool) : List A := [.v (.bool r)]
theorem s_q0x_ok (a0 : List Int) (v : Bool) (h : s_q0x a0 = some v) : (cond (s_q1n ((List.length a0 : Nat) : Int) 1 60) (Option.bind (s_q00 a0) fun r1 => (some [.v (.bool (!r1))])) (some [.v (.bool false)])) = some (l_q0x v) := by
 have e : (cond (s_q1n ((List.length a0 : Nat) : Int) 1 60) (Option.bind (s_q00 a0) fun r1 => (some [.v (.bool (!r1))])) (some [.v (.bool false)])) = Option.map l_q0x (s_q0x a0) := by
  unfold s_q0x
  exact (cond_app (Option.map l_q0x) (bind_app fun _ => rfl) rfl)
 rw [e, h]; rfl
noncomputable def c_q0x : List A → ACall
 | [.lst (.one (.i .i16)) a0] => ⟨Bool, s_q0x a0, fun r => .one (.v (.bool r))⟩
 | _ => ACall.fail
theorem f_q0x_sound : Sound Tryz.prog 16 c_q0x := by
 refine sound_good f_q0x_ctx f_q0x_LV 1 Tryz.func16 (c := f_q0x_c) (by kernel_rfl) (rv := f_q0x_rv) (by kernel_rfl) (by kernel_rfl) (by kernel_rfl) (by kernel_rfl) fun rs => ?_
 unfold c_q0x
 split
 ·rename_i a0; intro v h; exact ⟨rfl, l_q0x v, rfl, (f_q0x_top a0 _).trans (s_q0x_ok a0 v h)⟩
 ·intro v h; cases h
noncomputable def f_q16_c : Code := match Tryz.f9.body with | some c => c | none => .skip
noncomputable def f_q16_X : Ctx := ⟨TT, phiOf [(16, c_q0x), (72, c_q0i), (73, c_q0f)], noPsi, noXi⟩
def f_q16_LV : List (Nat × Keep) := [(3, ([4, 11, 12, 13], [], []))]
def f_q16_rv : List ResultVar := [.tmp 2, .tmp 3]
noncomputable def f_q16_L (r : List A) : Nat → AS → Option (List A) := L f_q16_X (cnOf f_q16_LV) f_q16_c (K0 TT f_q16_rv) r
theorem f_q16_ctx : CtxOK Tryz.prog f_q16_X := ctx_of tab mix ⟨⟨Tryz.call16, f_q0x_sound⟩, ⟨Tryz.call72, f_q0i_sound⟩, ⟨Tryz.call73, f_q0f_sound⟩, trivial⟩
noncomputable def f_q16_s3 (x0 x1 : Int) (x2 : List Int) (x3 : (List ByteArray)) : AS := ⟨[(4, .a (.sl 0)), (11, .a (.sl 1)), (12, .a (.v (.int .i64 x0))), (13, .a (.v (.int .i64 x1)))], [(0, some ⟨true, .arr (.one (.i .i16)) x2⟩), (1, some ⟨true, .arr (.one .s) x3⟩)], 2⟩
noncomputable def l_q16 (r : ((List Int) × Int)) : List A := [.lst (.one (.i .i16)) r.1, .v (.int .i64 r.2)]
theorem f_q16_step3 (x0 x1 : Int) (x2 : List Int) (x3 : (List ByteArray)) (r : List A) (h : (cond (decide (x1 < x0)) (cond (inB x1 (List.length x3)) (Option.bind (s_q0f (List.getD x3 (Int.toNat x1) (⟨#[]⟩ : ByteArray)) 1 200) fun r2 => (cond (!r2.2) (some [.lst (.one (.i .i16)) [], .v (.int .i64 5)]) (cond (fits ((List.length (x2 : List Int) + List.length ([(IntKind.wrap .i16 r2.1)] : List Int)) * 2)) (f_q16_L r 3 (f_q16_s3 x0 (IntKind.wrap .i64 (x1 + 1)) (x2 ++ [(IntKind.wrap .i16 r2.1)]) x3)) none))) none) (Option.bind (s_q0x x2) fun r3 => (cond (!r3) (some [.lst (.one (.i .i16)) [], .v (.int .i64 5)]) (some [.lst (.one (.i .i16)) x2, .v (.int .i64 0)])))) = some r) : f_q16_L r 3 (f_q16_s3 x0 x1 x2 x3) = some r :=
 step_of' h (by kernel_rfl)
noncomputable def f_q16_n3 (x0 x1 : Int) (x2 : List Int) (x3 : (List ByteArray)) : Option ((Int × Int × (List Int) × (List ByteArray)) ⊕ ((List Int) × Int)) := (cond (decide (x1 < x0)) (cond (inB x1 (List.length x3)) (Option.bind (s_q0f (List.getD x3 (Int.toNat x1) (⟨#[]⟩ : ByteArray)) 1 200) fun r2 => (cond (!r2.2) (some (Sum.inr ([], 5))) (cond (fits ((List.length (x2 : List Int) + List.length ([(IntKind.wrap .i16 r2.1)] : List Int)) * 2)) (some (Sum.inl (x0, (IntKind.wrap .i64 (x1 + 1)), (x2 ++ [(IntKind.wrap .i16 r2.1)]), x3))) none))) none) (Option.bind (s_q0x x2) fun r3 => (cond (!r3) (some (Sum.inr ([], 5))) (some (Sum.inr (x2, 0))))))
noncomputable def f_q16_run3 (x : (Int × Int × (List Int) × (List ByteArray))) : Option ((List Int) × Int) := iter (fun x => f_q16_n3 x.1 x.2.1 x.2.2.1 x.2.2.2) FU x
noncomputable def f_q16_G3 (r : List A) (x : (Int × Int × (List Int) × (List ByteArray))) : Prop := f_q16_L r 3 (f_q16_s3 x.1 x.2.1 x.2.2.1 x.2.2.2) = some r
noncomputable def f_q16_S3 (r : List A) : ((List Int) × Int) → Prop := fun v => r = l_q16 v
theorem f_q16_go3 (r : List A) : ∀ x, sem (f_q16_S3 r) (f_q16_run3 x) → f_q16_G3 r x :=
 fun x => iter_sound (step := fun x => f_q16_n3 x.1 x.2.1 x.2.2.1 x.2.2.2) (fun x h => by
  unfold f_q16_n3 at h
  exact f_q16_step3 x.1 x.2.1 x.2.2.1 x.2.2.2 r ((sem_cond h (fun h => (sem_cond h (fun h => (sem_bind h fun r2 h => (sem_cond h (fun h => sem_got h fun q => some_eq q) (fun h => (sem_cond h (fun h => sem_got h fun q => q) (fun h => sem_none h)))))) (fun h => sem_none h))) (fun h => (sem_bind h fun r3 h => (sem_cond h (fun h => sem_got h fun q => some_eq q) (fun h => sem_got h fun q => some_eq q))))))) FU x
noncomputable def s_q16 (a0 : ByteArray) : Option ((List Int) × Int) := (Option.bind (s_q0i a0 (⟨#[44]⟩ : ByteArray)) fun r1 => (f_q16_run3 (((List.length r1 : Nat) : Int), 0, [], r1)))
theorem f_q16_top (a0 : ByteArray) (r : List A) : ev f_q16_X (lpc (cnOf f_q16_LV) (f_q16_L r)) f_q16_c (K0 TT f_q16_rv) (enter [.v (.string a0)]) = (Option.bind (s_q0i a0 (⟨#[44]⟩ : ByteArray)) fun r1 => (f_q16_L r 3 (f_q16_s3 ((List.length r1 : Nat) : Int) 0 [] r1))) := by kernel_rfl
theorem s_q16_ok (a0 : ByteArray) (v : ((List Int) × Int)) (h : s_q16 a0 = some v) : (Option.bind (s_q0i a0 (⟨#[44]⟩ : ByteArray)) fun r1 => (f_q16_L (l_q16 v) 3 (f_q16_s3 ((List.length r1 : Nat) : Int) 0 [] r1))) = some (l_q16 v) := by
 unfold s_q16 at h
 have go : ∀ r, sem (fun v => r = l_q16 v) ((Option.bind (s_q0i a0 (⟨#[44]⟩ : ByteArray)) fun r1 => (f_q16_run3 (((List.length r1 : Nat) : Int), 0, [], r1)))) → (Option.bind (s_q0i a0 (⟨#[44]⟩ : ByteArray)) fun r1 => (f_q16_L r 3 (f_q16_s3 ((List.length r1 : Nat) : Int) 0 [] r1))) = some r := fun r h => (sem_bind h fun r1 h => f_q16_go3 r _ h)
 exact go (l_q16 v) ⟨v, h, rfl⟩
noncomputable def c_q16 : List A → ACall
 | [.v (.string a0)] => ⟨((List Int) × Int), s_q16 a0, fun r => .tup [.lst (.one (.i .i16)) r.1, .v (.int .i64 r.2)]⟩
 | _ => ACall.fail
theorem f_q16_sound : Sound Tryz.prog 9 c_q16 := by
 refine sound_good f_q16_ctx f_q16_LV 1 Tryz.func9 (c := f_q16_c) (by kernel_rfl) (rv := f_q16_rv) (by kernel_rfl) (by kernel_rfl) (by kernel_rfl) (by kernel_rfl) fun rs => ?_
 unfold c_q16
 split
 ·rename_i a0; intro v h; exact ⟨rfl, l_q16 v, rfl, (f_q16_top a0 _).trans (s_q16_ok a0 v h)⟩
 ·intro v h; cases h
noncomputable def f_q19_c : Code := match Tryz.f74.body with | some c => c | none => .skip
noncomputable def f_q19_X : Ctx := ⟨TT, phiOf [(157, c_q08)], noPsi, noXi⟩
def f_q19_LV : List (Nat × Keep) := []
def f_q19_rv : List ResultVar := [.tmp 2]
noncomputable def f_q19_L (r : List A) : Nat → AS → Option (List A) := L f_q19_X (cnOf f_q19_LV) f_q19_c (K0 TT f_q19_rv) r
theorem f_q19_ctx : CtxOK Tryz.prog f_q19_X := ctx_of tab mix ⟨⟨Tryz.call157, f_q08_sound⟩, trivial⟩
noncomputable def s_q19 (a0 : Int) : Option ByteArray := (Option.bind (s_q08 a0 10) fun r1 => (some r1))
theorem f_q19_top (a0 : Int) (r : List A) : ev f_q19_X (lpc (cnOf f_q19_LV) (f_q19_L r)) f_q19_c (K0 TT f_q19_rv) (enter [.v (.int .i64 a0)]) = (Option.bind (s_q08 a0 10) fun r1 => (some [.v (.string r1)])) := by kernel_rfl
noncomputable def l_q19 (r : ByteArray) : List A := [.v (.string r)]
theorem s_q19_ok (a0 : Int) (v : ByteArray) (h : s_q19 a0 = some v) : (Option.bind (s_q08 a0 10) fun r1 => (some [.v (.string r1)])) = some (l_q19 v) := by
 have e : (Option.bind (s_q08 a0 10) fun r1 => (some [.v (.string r1)])) = Option.map l_q19 (s_q19 a0) := by
  unfold s_q19
  exact (bind_app fun _ => rfl)
 rw [e, h]; rfl
noncomputable def c_q19 : List A → ACall
 | [.v (.int .i64 a0)] => ⟨ByteArray, s_q19 a0, fun r => .one (.v (.string r))⟩
 | _ => ACall.fail
theorem f_q19_sound : Sound Tryz.prog 74 c_q19 := by
 refine sound_good f_q19_ctx f_q19_LV 1 Tryz.func74 (c := f_q19_c) (by kernel_rfl) (rv := f_q19_rv) (by kernel_rfl) (by kernel_rfl) (by kernel_rfl) (by kernel_rfl) fun rs => ?_
 unfold c_q19
 split
 ·rename_i a0; intro v h; exact ⟨rfl, l_q19 v, rfl, (f_q19_top a0 _).trans (s_q19_ok a0 v h)⟩
 ·intro v h; cases h
noncomputable def f_q17_c : Code := match Tryz.f10.body with | some c => c | none => .skip
noncomputable def f_q17_X : Ctx := ⟨TT, phiOf [(16, c_q0x), (74, c_q19), (75, c_q0m)], noPsi, noXi⟩
def f_q17_LV : List (Nat × Keep) := [(5, ([3, 10, 11, 12], [], []))]
def f_q17_rv : List ResultVar := [.tmp 2]
noncomputable def f_q17_L (r : List A) : Nat → AS → Option (List A) := L f_q17_X (cnOf f_q17_LV) f_q17_c (K0 TT f_q17_rv) r
theorem f_q17_ctx : CtxOK Tryz.prog f_q17_X := ctx_of tab mix ⟨⟨Tryz.call16, f_q0x_sound⟩, ⟨Tryz.call74, f_q19_sound⟩, ⟨Tryz.call75, f_q0m_sound⟩, trivial⟩
noncomputable def f_q17_s5 (x0 x1 : Int) (x2 : (List ByteArray)) (x3 : List Int) : AS := ⟨[(3, .a (.sl 0)), (10, .a (.sl 1)), (11, .a (.v (.int .i64 x0))), (12, .a (.v (.int .i64 x1)))], [(0, some ⟨true, .arr (.one .s) x2⟩), (1, some ⟨false, .arr (.one (.i .i16)) x3⟩)], 2⟩
noncomputable def l_q17 (r : ByteArray) : List A := [.v (.string r)]
theorem f_q17_step5 (x0 x1 : Int) (x2 : (List ByteArray)) (x3 : List Int) (r : List A) (h : (cond (decide (x1 < x0)) (cond (inB x1 (List.length x3)) (Option.bind (s_q19 (IntKind.wrap .i64 (List.getD x3 (Int.toNat x1) 0))) fun r2 => (cond (fits ((List.length (x2 : List ByteArray) + List.length ([r2] : List ByteArray)) * 16)) (f_q17_L r 5 (f_q17_s5 x0 (IntKind.wrap .i64 (x1 + 1)) (x2 ++ [r2]) x3)) none)) none) (Option.bind (s_q0m x2 (⟨#[44]⟩ : ByteArray)) fun r3 => (some [.v (.string r3)]))) = some r) : f_q17_L r 5 (f_q17_s5 x0 x1 x2 x3) = some r :=
 step_of' h (by kernel_rfl)
noncomputable def f_q17_n5 (x0 x1 : Int) (x2 : (List ByteArray)) (x3 : List Int) : Option ((Int × Int × (List ByteArray) × (List Int)) ⊕ ByteArray) := (cond (decide (x1 < x0)) (cond (inB x1 (List.length x3)) (Option.bind (s_q19 (IntKind.wrap .i64 (List.getD x3 (Int.toNat x1) 0))) fun r2 => (cond (fits ((List.length (x2 : List ByteArray) + List.length ([r2] : List ByteArray)) * 16)) (some (Sum.inl (x0, (IntKind.wrap .i64 (x1 + 1)), (x2 ++ [r2]), x3))) none)) none) (Option.bind (s_q0m x2 (⟨#[44]⟩ : ByteArray)) fun r3 => (some (Sum.inr r3))))
noncomputable def f_q17_run5 (x : (Int × Int × (List ByteArray) × (List Int))) : Option ByteArray := iter (fun x => f_q17_n5 x.1 x.2.1 x.2.2.1 x.2.2.2) FU x
noncomputable def f_q17_G5 (r : List A) (x : (Int × Int × (List ByteArray) × (List Int))) : Prop := f_q17_L r 5 (f_q17_s5 x.1 x.2.1 x.2.2.1 x.2.2.2) = some r
noncomputable def f_q17_S5 (r : List A) : ByteArray → Prop := fun v => r = l_q17 v
theorem f_q17_go5 (r : List A) : ∀ x, sem (f_q17_S5 r) (f_q17_run5 x) → f_q17_G5 r x :=
 fun x => iter_sound (step := fun x => f_q17_n5 x.1 x.2.1 x.2.2.1 x.2.2.2) (fun x h => by
  unfold f_q17_n5 at h
  exact f_q17_step5 x.1 x.2.1 x.2.2.1 x.2.2.2 r ((sem_cond h (fun h => (sem_cond h (fun h => (sem_bind h fun r2 h => (sem_cond h (fun h => sem_got h fun q => q) (fun h => sem_none h)))) (fun h => sem_none h))) (fun h => (sem_bind h fun r3 h => sem_got h fun q => some_eq q))))) FU x
noncomputable def s_q17 (a0 : List Int) : Option ByteArray := (Option.bind (s_q0x a0) fun r1 => (cond (!r1) (some (⟨#[]⟩ : ByteArray)) (f_q17_run5 (((List.length a0 : Nat) : Int), 0, [], a0))))
theorem f_q17_top (a0 : List Int) (r : List A) : ev f_q17_X (lpc (cnOf f_q17_LV) (f_q17_L r)) f_q17_c (K0 TT f_q17_rv) (enter [.lst (.one (.i .i16)) a0]) = (Option.bind (s_q0x a0) fun r1 => (cond (!r1) (some [.v (.string (⟨#[]⟩ : ByteArray))]) (f_q17_L r 5 (f_q17_s5 ((List.length a0 : Nat) : Int) 0 [] a0)))) := by kernel_rfl
theorem s_q17_ok (a0 : List Int) (v : ByteArray) (h : s_q17 a0 = some v) : (Option.bind (s_q0x a0) fun r1 => (cond (!r1) (some [.v (.string (⟨#[]⟩ : ByteArray))]) (f_q17_L (l_q17 v) 5 (f_q17_s5 ((List.length a0 : Nat) : Int) 0 [] a0)))) = some (l_q17 v) := by
 unfold s_q17 at h
 have go : ∀ r, sem (fun v => r = l_q17 v) ((Option.bind (s_q0x a0) fun r1 => (cond (!r1) (some (⟨#[]⟩ : ByteArray)) (f_q17_run5 (((List.length a0 : Nat) : Int), 0, [], a0))))) → (Option.bind (s_q0x a0) fun r1 => (cond (!r1) (some [.v (.string (⟨#[]⟩ : ByteArray))]) (f_q17_L r 5 (f_q17_s5 ((List.length a0 : Nat) : Int) 0 [] a0)))) = some r := fun r h => (sem_bind h fun r1 h => (sem_cond h (fun h => sem_got h fun q => some_eq q) (fun h => f_q17_go5 r _ h)))
 exact go (l_q17 v) ⟨v, h, rfl⟩
noncomputable def c_q17 : List A → ACall
 | [.lst (.one (.i .i16)) a0] => ⟨ByteArray, s_q17 a0, fun r => .one (.v (.string r))⟩
 | _ => ACall.fail
theorem f_q17_sound : Sound Tryz.prog 10 c_q17 := by
 refine sound_good f_q17_ctx f_q17_LV 1 Tryz.func10 (c := f_q17_c) (by kernel_rfl) (rv := f_q17_rv) (by kernel_rfl) (by kernel_rfl) (by kernel_rfl) (by kernel_rfl) fun rs => ?_
 unfold c_q17
 split
 ·rename_i a0; intro v h; exact ⟨rfl, l_q17 v, rfl, (f_q17_top a0 _).trans (s_q17_ok a0 v h)⟩
 ·intro v h; cases h
end Go.RR
