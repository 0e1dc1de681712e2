/- Rows that are compared and marked. -/
import Derived.Test.YtpcilcojfechaaaVb
import Derived.Test.YtpcilcojfechaaaRz
set_option linter.unusedVariables false
set_option linter.unusedSimpArgs false
set_option linter.unusedSectionVars false
set_option maxRecDepth 100000
namespace Go.RR
open Go Go.Proofs

/-! ### function 31: loop.example/g01322/laws.markRow -/
noncomputable def f_wmarkRow_c : Code := match Try.f31.body with | some c => c | none => .skip
noncomputable def f_wmarkRow_X : Ctx := ⟨TT, phiOf [], noPsi, noXi⟩
def f_wmarkRow_LV : List (Nat × Keep) := [(2, ([0, 1, 5], [], []))]
def f_wmarkRow_rv : List ResultVar := [.tmp 4]
noncomputable def f_wmarkRow_L (r : List A) : Nat → AS → Option (List A) := L f_wmarkRow_X (cnOfU f_wmarkRow_LV) f_wmarkRow_c (K0U TT f_wmarkRow_rv) r
theorem f_wmarkRow_ctx : CtxOK Try.prog f_wmarkRow_X := ctx_of tab mix trivial
noncomputable def f_wmarkRow_s2 (x0 : Int) (x1 : Int) (x2 : (List Int)) : AS := ⟨[(0, .a (.sl 0)), (1, .a (.v (.int .i64 x0))), (5, .a (.v (.int .i64 x1)))], [(0, some ⟨true, .arr (.one (.i .i16)) x2⟩)], 1⟩
noncomputable def l_wmarkRow (r : (Int × (List Int))) : List A := [.v (.int .i64 r.1), .lst (.one (.i .i16)) r.2]
theorem f_wmarkRow_step2 (x0 : Int) (x1 : Int) (x2 : (List Int)) (r : List A) (h : (cond (decide (x1 < ((List.length x2 : Nat) : Int))) (cond (inB x1 (List.length x2)) (f_wmarkRow_L r 2 (f_wmarkRow_s2 (IntKind.wrap .i64 (x0 + 1)) (IntKind.wrap .i64 (x1 + 1)) (List.set x2 (Int.toNat x1) (IntKind.wrap .i16 x0)))) none) (some [.v (.int .i64 x0), .lst (.one (.i .i16)) x2])) = some r) : f_wmarkRow_L r 2 (f_wmarkRow_s2 x0 x1 x2) = some r :=
  step_of' h (by kernel_rfl)
noncomputable def f_wmarkRow_n2 (x0 : Int) (x1 : Int) (x2 : (List Int)) : Option ((Int × Int × (List Int)) ⊕ (Int × (List Int))) := (cond (decide (x1 < ((List.length x2 : Nat) : Int))) (cond (inB x1 (List.length x2)) (some (Sum.inl ((IntKind.wrap .i64 (x0 + 1)), (IntKind.wrap .i64 (x1 + 1)), (List.set x2 (Int.toNat x1) (IntKind.wrap .i16 x0))))) none) (some (Sum.inr (x0, x2))))
noncomputable def f_wmarkRow_run2 (x : (Int × Int × (List Int))) : Option (Int × (List Int)) := iter (fun x => f_wmarkRow_n2 x.1 x.2.1 x.2.2) FU x
noncomputable def f_wmarkRow_G2 (r : List A) (x : (Int × Int × (List Int))) : Prop := f_wmarkRow_L r 2 (f_wmarkRow_s2 x.1 x.2.1 x.2.2) = some r
noncomputable def f_wmarkRow_S2 (r : List A) : (Int × (List Int)) → Prop := fun v => r = l_wmarkRow v
theorem f_wmarkRow_go2 (r : List A) : ∀ x, sem (f_wmarkRow_S2 r) (f_wmarkRow_run2 x) → f_wmarkRow_G2 r x :=
  fun x => iter_sound (step := fun x => f_wmarkRow_n2 x.1 x.2.1 x.2.2) (fun x h => by
    unfold f_wmarkRow_n2 at h
    exact f_wmarkRow_step2 x.1 x.2.1 x.2.2 r ((sem_cond h (fun h => (sem_cond h (fun h => sem_got h fun q => q) (fun h => sem_none h))) (fun h => sem_got h fun q => some_eq q)))) FU x
noncomputable def s_wmarkRow (a0 : (List Int)) (a1 : Int) : Option (Int × (List Int)) := (f_wmarkRow_run2 (a1, 0, a0))
theorem f_wmarkRow_top (a0 : (List Int)) (a1 : Int) (r : List A) : ev f_wmarkRow_X (lpc (cnOfU f_wmarkRow_LV) (f_wmarkRow_L r)) f_wmarkRow_c (K0U TT f_wmarkRow_rv) (enterU (.one (.i .i16)) a0 [.v (.int .i64 a1)]) = (f_wmarkRow_L r 2 (f_wmarkRow_s2 a1 0 a0)) := by kernel_rfl
theorem s_wmarkRow_ok (a0 : (List Int)) (a1 : Int) (v : (Int × (List Int))) (h : s_wmarkRow a0 a1 = some v) : (f_wmarkRow_L (l_wmarkRow v) 2 (f_wmarkRow_s2 a1 0 a0)) = some (l_wmarkRow v) := by
  unfold s_wmarkRow at h
  have go : ∀ r, sem (fun v => r = l_wmarkRow v) ((f_wmarkRow_run2 (a1, 0, a0))) → (f_wmarkRow_L r 2 (f_wmarkRow_s2 a1 0 a0)) = some r := fun r h => f_wmarkRow_go2 r _ h
  exact go (l_wmarkRow v) ⟨v, h, rfl⟩
noncomputable def u_wmarkRow : UCon := fun e l rest => match e, l, rest with
  | (.one (.i .i16)), a0, [.v (.int .i64 a1)] => ⟨(Int × (List Int)), s_wmarkRow a0 a1, fun r => some (.v (.int .i64 r.1)), fun r => r.2⟩
  | _, _, _ => UCall.fail
theorem f_wmarkRow_sound : USound Try.prog 31 u_wmarkRow := by
  refine sound_goodU f_wmarkRow_ctx f_wmarkRow_LV 2 Try.func31 (c := f_wmarkRow_c) (by kernel_rfl) (rv := f_wmarkRow_rv) (by kernel_rfl) (by kernel_rfl) (by kernel_rfl) (by kernel_rfl) fun e l rest => ?_
  unfold u_wmarkRow
  split
  · rename_i a0 a1; intro v h; exact ⟨rfl, (f_wmarkRow_top a0 a1 _).trans (s_wmarkRow_ok a0 a1 v h)⟩
  · intro v h; cases h

/-! ### function 30: loop.example/g01322/laws.eqRow -/
noncomputable def f_weqRow_c : Code := match Try.f30.body with | some c => c | none => .skip
noncomputable def f_weqRow_X : Ctx := ⟨TT, phiOf [], noPsi, noXi⟩
def f_weqRow_LV : List (Nat × Keep) := [(4, ([0, 1, 5], [], []))]
def f_weqRow_rv : List ResultVar := [.tmp 4]
noncomputable def f_weqRow_L (r : List A) : Nat → AS → Option (List A) := L f_weqRow_X (cnOf f_weqRow_LV) f_weqRow_c (K0 TT f_weqRow_rv) r
theorem f_weqRow_ctx : CtxOK Try.prog f_weqRow_X := ctx_of tab mix trivial
noncomputable def f_weqRow_s4 (x0 : Int) (x1 : (List Int)) (x2 : (List Int)) : AS := ⟨[(0, .a (.sl 0)), (1, .a (.sl 1)), (5, .a (.v (.int .i64 x0)))], [(0, some ⟨false, .arr (.one (.i .i16)) x1⟩), (1, some ⟨false, .arr (.one (.i .i16)) x2⟩)], 2⟩
noncomputable def l_weqRow (r : Bool) : List A := [.v (.bool r)]
theorem f_weqRow_step4 (x0 : Int) (x1 : (List Int)) (x2 : (List Int)) (r : List A) (h : (cond (decide (x0 < ((List.length x1 : Nat) : Int))) (cond (inB x0 (List.length x1)) (cond (inB x0 (List.length x2)) (cond ((List.getD x1 (Int.toNat x0) 0) != (List.getD x2 (Int.toNat x0) 0)) (some [.v (.bool false)]) (f_weqRow_L r 4 (f_weqRow_s4 (IntKind.wrap .i64 (x0 + 1)) x1 x2))) none) none) (some [.v (.bool true)])) = some r) : f_weqRow_L r 4 (f_weqRow_s4 x0 x1 x2) = some r :=
  step_of' h (by kernel_rfl)
noncomputable def f_weqRow_n4 (x0 : Int) (x1 : (List Int)) (x2 : (List Int)) : Option ((Int × (List Int) × (List Int)) ⊕ Bool) := (cond (decide (x0 < ((List.length x1 : Nat) : Int))) (cond (inB x0 (List.length x1)) (cond (inB x0 (List.length x2)) (cond ((List.getD x1 (Int.toNat x0) 0) != (List.getD x2 (Int.toNat x0) 0)) (some (Sum.inr false)) (some (Sum.inl ((IntKind.wrap .i64 (x0 + 1)), x1, x2)))) none) none) (some (Sum.inr true)))
noncomputable def f_weqRow_run4 (x : (Int × (List Int) × (List Int))) : Option Bool := iter (fun x => f_weqRow_n4 x.1 x.2.1 x.2.2) FU x
noncomputable def f_weqRow_G4 (r : List A) (x : (Int × (List Int) × (List Int))) : Prop := f_weqRow_L r 4 (f_weqRow_s4 x.1 x.2.1 x.2.2) = some r
noncomputable def f_weqRow_S4 (r : List A) : Bool → Prop := fun v => r = l_weqRow v
theorem f_weqRow_go4 (r : List A) : ∀ x, sem (f_weqRow_S4 r) (f_weqRow_run4 x) → f_weqRow_G4 r x :=
  fun x => iter_sound (step := fun x => f_weqRow_n4 x.1 x.2.1 x.2.2) (fun x h => by
    unfold f_weqRow_n4 at h
    exact f_weqRow_step4 x.1 x.2.1 x.2.2 r ((sem_cond h (fun h => (sem_cond h (fun h => (sem_cond h (fun h => (sem_cond h (fun h => sem_got h fun q => some_eq q) (fun h => sem_got h fun q => q))) (fun h => sem_none h))) (fun h => sem_none h))) (fun h => sem_got h fun q => some_eq q)))) FU x
noncomputable def s_weqRow (a0 : (List Int)) (a1 : (List Int)) : Option Bool := (cond (((List.length a0 : Nat) : Int) != ((List.length a1 : Nat) : Int)) (some false) (f_weqRow_run4 (0, a0, a1)))
theorem f_weqRow_top (a0 : (List Int)) (a1 : (List Int)) (r : List A) : ev f_weqRow_X (lpc (cnOf f_weqRow_LV) (f_weqRow_L r)) f_weqRow_c (K0 TT f_weqRow_rv) (enter [.lst (.one (.i .i16)) a0, .lst (.one (.i .i16)) a1]) = (cond (((List.length a0 : Nat) : Int) != ((List.length a1 : Nat) : Int)) (some [.v (.bool false)]) (f_weqRow_L r 4 (f_weqRow_s4 0 a0 a1))) := by kernel_rfl
theorem s_weqRow_ok (a0 : (List Int)) (a1 : (List Int)) (v : Bool) (h : s_weqRow a0 a1 = some v) : (cond (((List.length a0 : Nat) : Int) != ((List.length a1 : Nat) : Int)) (some [.v (.bool false)]) (f_weqRow_L (l_weqRow v) 4 (f_weqRow_s4 0 a0 a1))) = some (l_weqRow v) := by
  unfold s_weqRow at h
  have go : ∀ r, sem (fun v => r = l_weqRow v) ((cond (((List.length a0 : Nat) : Int) != ((List.length a1 : Nat) : Int)) (some false) (f_weqRow_run4 (0, a0, a1)))) → (cond (((List.length a0 : Nat) : Int) != ((List.length a1 : Nat) : Int)) (some [.v (.bool false)]) (f_weqRow_L r 4 (f_weqRow_s4 0 a0 a1))) = some r := fun r h => (sem_cond h (fun h => sem_got h fun q => some_eq q) (fun h => f_weqRow_go4 r _ h))
  exact go (l_weqRow v) ⟨v, h, rfl⟩
noncomputable def c_weqRow : List A → ACall
  | [.lst (.one (.i .i16)) a0, .lst (.one (.i .i16)) a1] => ⟨Bool, s_weqRow a0 a1, fun r => .one (.v (.bool r))⟩
  | _ => ACall.fail
theorem f_weqRow_sound : Sound Try.prog 30 c_weqRow := by
  refine sound_good f_weqRow_ctx f_weqRow_LV 2 Try.func30 (c := f_weqRow_c) (by kernel_rfl) (rv := f_weqRow_rv) (by kernel_rfl) (by kernel_rfl) (by kernel_rfl) (by kernel_rfl) fun rs => ?_
  unfold c_weqRow
  split
  · rename_i a0 a1; intro v h; exact ⟨rfl, l_weqRow v, rfl, (f_weqRow_top a0 a1 _).trans (s_weqRow_ok a0 a1 v h)⟩
  · intro v h; cases h

/-! ### function 7: loop.example/g01322/laws.eqRowS -/
noncomputable def f_weqRowS_c : Code := match Try.f7.body with | some c => c | none => .skip
noncomputable def f_weqRowS_X : Ctx := ⟨TT, phiOf [(30, c_weqRow)], noPsi, noXi⟩
def f_weqRowS_LV : List (Nat × Keep) := [(4, ([0, 1, 5], [], []))]
def f_weqRowS_rv : List ResultVar := [.tmp 4]
noncomputable def f_weqRowS_L (r : List A) : Nat → AS → Option (List A) := L f_weqRowS_X (cnOf f_weqRowS_LV) f_weqRowS_c (K0 TT f_weqRowS_rv) r
theorem f_weqRowS_ctx : CtxOK Try.prog f_weqRowS_X := ctx_of tab mix ⟨⟨Try.call30, f_weqRow_sound⟩, trivial⟩
noncomputable def f_weqRowS_s4 (x0 : Int) (x1 : (List (List Int))) (x2 : (List (List Int))) : AS := ⟨[(0, .a (.sl 0)), (1, .a (.sl 1)), (5, .a (.v (.int .i64 x0)))], [(0, some ⟨false, .arr (.one (.ls .i16)) x1⟩), (1, some ⟨false, .arr (.one (.ls .i16)) x2⟩)], 2⟩
noncomputable def l_weqRowS (r : Bool) : List A := [.v (.bool r)]
theorem f_weqRowS_step4 (x0 : Int) (x1 : (List (List Int))) (x2 : (List (List Int))) (r : List A) (h : (cond (decide (x0 < ((List.length x1 : Nat) : Int))) (cond (inB x0 (List.length x1)) (cond (inB x0 (List.length x2)) (Option.bind (s_weqRow (List.getD x1 (Int.toNat x0) ([] : List Int)) (List.getD x2 (Int.toNat x0) ([] : List Int))) fun r1 => (cond (!r1) (some [.v (.bool false)]) (f_weqRowS_L r 4 (f_weqRowS_s4 (IntKind.wrap .i64 (x0 + 1)) x1 x2)))) none) none) (some [.v (.bool true)])) = some r) : f_weqRowS_L r 4 (f_weqRowS_s4 x0 x1 x2) = some r :=
  step_of' h (by kernel_rfl)
noncomputable def f_weqRowS_n4 (x0 : Int) (x1 : (List (List Int))) (x2 : (List (List Int))) : Option ((Int × (List (List Int)) × (List (List Int))) ⊕ Bool) := (cond (decide (x0 < ((List.length x1 : Nat) : Int))) (cond (inB x0 (List.length x1)) (cond (inB x0 (List.length x2)) (Option.bind (s_weqRow (List.getD x1 (Int.toNat x0) ([] : List Int)) (List.getD x2 (Int.toNat x0) ([] : List Int))) fun r1 => (cond (!r1) (some (Sum.inr false)) (some (Sum.inl ((IntKind.wrap .i64 (x0 + 1)), x1, x2))))) none) none) (some (Sum.inr true)))
noncomputable def f_weqRowS_run4 (x : (Int × (List (List Int)) × (List (List Int)))) : Option Bool := iter (fun x => f_weqRowS_n4 x.1 x.2.1 x.2.2) FU x
noncomputable def f_weqRowS_G4 (r : List A) (x : (Int × (List (List Int)) × (List (List Int)))) : Prop := f_weqRowS_L r 4 (f_weqRowS_s4 x.1 x.2.1 x.2.2) = some r
noncomputable def f_weqRowS_S4 (r : List A) : Bool → Prop := fun v => r = l_weqRowS v
theorem f_weqRowS_go4 (r : List A) : ∀ x, sem (f_weqRowS_S4 r) (f_weqRowS_run4 x) → f_weqRowS_G4 r x :=
  fun x => iter_sound (step := fun x => f_weqRowS_n4 x.1 x.2.1 x.2.2) (fun x h => by
    unfold f_weqRowS_n4 at h
    exact f_weqRowS_step4 x.1 x.2.1 x.2.2 r ((sem_cond h (fun h => (sem_cond h (fun h => (sem_cond h (fun h => (sem_bind h fun r1 h => (sem_cond h (fun h => sem_got h fun q => some_eq q) (fun h => sem_got h fun q => q)))) (fun h => sem_none h))) (fun h => sem_none h))) (fun h => sem_got h fun q => some_eq q)))) FU x
noncomputable def s_weqRowS (a0 : (List (List Int))) (a1 : (List (List Int))) : Option Bool := (cond (((List.length a0 : Nat) : Int) != ((List.length a1 : Nat) : Int)) (some false) (f_weqRowS_run4 (0, a0, a1)))
theorem f_weqRowS_top (a0 : (List (List Int))) (a1 : (List (List Int))) (r : List A) : ev f_weqRowS_X (lpc (cnOf f_weqRowS_LV) (f_weqRowS_L r)) f_weqRowS_c (K0 TT f_weqRowS_rv) (enter [.lst (.one (.ls .i16)) a0, .lst (.one (.ls .i16)) a1]) = (cond (((List.length a0 : Nat) : Int) != ((List.length a1 : Nat) : Int)) (some [.v (.bool false)]) (f_weqRowS_L r 4 (f_weqRowS_s4 0 a0 a1))) := by kernel_rfl
theorem s_weqRowS_ok (a0 : (List (List Int))) (a1 : (List (List Int))) (v : Bool) (h : s_weqRowS a0 a1 = some v) : (cond (((List.length a0 : Nat) : Int) != ((List.length a1 : Nat) : Int)) (some [.v (.bool false)]) (f_weqRowS_L (l_weqRowS v) 4 (f_weqRowS_s4 0 a0 a1))) = some (l_weqRowS v) := by
  unfold s_weqRowS at h
  have go : ∀ r, sem (fun v => r = l_weqRowS v) ((cond (((List.length a0 : Nat) : Int) != ((List.length a1 : Nat) : Int)) (some false) (f_weqRowS_run4 (0, a0, a1)))) → (cond (((List.length a0 : Nat) : Int) != ((List.length a1 : Nat) : Int)) (some [.v (.bool false)]) (f_weqRowS_L r 4 (f_weqRowS_s4 0 a0 a1))) = some r := fun r h => (sem_cond h (fun h => sem_got h fun q => some_eq q) (fun h => f_weqRowS_go4 r _ h))
  exact go (l_weqRowS v) ⟨v, h, rfl⟩
noncomputable def c_weqRowS : List A → ACall
  | [.lst (.one (.ls .i16)) a0, .lst (.one (.ls .i16)) a1] => ⟨Bool, s_weqRowS a0 a1, fun r => .one (.v (.bool r))⟩
  | _ => ACall.fail
theorem f_weqRowS_sound : Sound Try.prog 7 c_weqRowS := by
  refine sound_good f_weqRowS_ctx f_weqRowS_LV 2 Try.func7 (c := f_weqRowS_c) (by kernel_rfl) (rv := f_weqRowS_rv) (by kernel_rfl) (by kernel_rfl) (by kernel_rfl) (by kernel_rfl) fun rs => ?_
  unfold c_weqRowS
  split
  · rename_i a0 a1; intro v h; exact ⟨rfl, l_weqRowS v, rfl, (f_weqRowS_top a0 a1 _).trans (s_weqRowS_ok a0 a1 v h)⟩
  · intro v h; cases h

/-! ### function 32: loop.example/g01322/laws.heldRow -/
noncomputable def f_wheldRow_c : Code := match Try.f32.body with | some c => c | none => .skip
noncomputable def f_wheldRow_X : Ctx := ⟨TT, phiOf [], noPsi, noXi⟩
def f_wheldRow_LV : List (Nat × Keep) := [(2, ([0, 1, 5], [], []))]
def f_wheldRow_rv : List ResultVar := [.tmp 4]
noncomputable def f_wheldRow_L (r : List A) : Nat → AS → Option (List A) := L f_wheldRow_X (cnOf f_wheldRow_LV) f_wheldRow_c (K0 TT f_wheldRow_rv) r
theorem f_wheldRow_ctx : CtxOK Try.prog f_wheldRow_X := ctx_of tab mix trivial
noncomputable def f_wheldRow_s2 (x0 : Int) (x1 : Int) (x2 : (List Int)) : AS := ⟨[(0, .a (.sl 0)), (1, .a (.v (.int .i64 x0))), (5, .a (.v (.int .i64 x1)))], [(0, some ⟨false, .arr (.one (.i .i16)) x2⟩)], 1⟩
noncomputable def l_wheldRow (r : Int) : List A := [.v (.int .i64 r)]
theorem f_wheldRow_step2 (x0 : Int) (x1 : Int) (x2 : (List Int)) (r : List A) (h : (cond (decide (x1 < ((List.length x2 : Nat) : Int))) (cond (inB x1 (List.length x2)) (cond ((List.getD x2 (Int.toNat x1) 0) != (IntKind.wrap .i16 x0)) (some [.v (.int .i64 (-1))]) (f_wheldRow_L r 2 (f_wheldRow_s2 (IntKind.wrap .i64 (x0 + 1)) (IntKind.wrap .i64 (x1 + 1)) x2))) none) (some [.v (.int .i64 x0)])) = some r) : f_wheldRow_L r 2 (f_wheldRow_s2 x0 x1 x2) = some r :=
  step_of' h (by kernel_rfl)
noncomputable def f_wheldRow_n2 (x0 : Int) (x1 : Int) (x2 : (List Int)) : Option ((Int × Int × (List Int)) ⊕ Int) := (cond (decide (x1 < ((List.length x2 : Nat) : Int))) (cond (inB x1 (List.length x2)) (cond ((List.getD x2 (Int.toNat x1) 0) != (IntKind.wrap .i16 x0)) (some (Sum.inr (-1))) (some (Sum.inl ((IntKind.wrap .i64 (x0 + 1)), (IntKind.wrap .i64 (x1 + 1)), x2)))) none) (some (Sum.inr x0)))
noncomputable def f_wheldRow_run2 (x : (Int × Int × (List Int))) : Option Int := iter (fun x => f_wheldRow_n2 x.1 x.2.1 x.2.2) FU x
noncomputable def f_wheldRow_G2 (r : List A) (x : (Int × Int × (List Int))) : Prop := f_wheldRow_L r 2 (f_wheldRow_s2 x.1 x.2.1 x.2.2) = some r
noncomputable def f_wheldRow_S2 (r : List A) : Int → Prop := fun v => r = l_wheldRow v
theorem f_wheldRow_go2 (r : List A) : ∀ x, sem (f_wheldRow_S2 r) (f_wheldRow_run2 x) → f_wheldRow_G2 r x :=
  fun x => iter_sound (step := fun x => f_wheldRow_n2 x.1 x.2.1 x.2.2) (fun x h => by
    unfold f_wheldRow_n2 at h
    exact f_wheldRow_step2 x.1 x.2.1 x.2.2 r ((sem_cond h (fun h => (sem_cond h (fun h => (sem_cond h (fun h => sem_got h fun q => some_eq q) (fun h => sem_got h fun q => q))) (fun h => sem_none h))) (fun h => sem_got h fun q => some_eq q)))) FU x
noncomputable def s_wheldRow (a0 : (List Int)) (a1 : Int) : Option Int := (f_wheldRow_run2 (a1, 0, a0))
theorem f_wheldRow_top (a0 : (List Int)) (a1 : Int) (r : List A) : ev f_wheldRow_X (lpc (cnOf f_wheldRow_LV) (f_wheldRow_L r)) f_wheldRow_c (K0 TT f_wheldRow_rv) (enter [.lst (.one (.i .i16)) a0, .v (.int .i64 a1)]) = (f_wheldRow_L r 2 (f_wheldRow_s2 a1 0 a0)) := by kernel_rfl
theorem s_wheldRow_ok (a0 : (List Int)) (a1 : Int) (v : Int) (h : s_wheldRow a0 a1 = some v) : (f_wheldRow_L (l_wheldRow v) 2 (f_wheldRow_s2 a1 0 a0)) = some (l_wheldRow v) := by
  unfold s_wheldRow at h
  have go : ∀ r, sem (fun v => r = l_wheldRow v) ((f_wheldRow_run2 (a1, 0, a0))) → (f_wheldRow_L r 2 (f_wheldRow_s2 a1 0 a0)) = some r := fun r h => f_wheldRow_go2 r _ h
  exact go (l_wheldRow v) ⟨v, h, rfl⟩
noncomputable def c_wheldRow : List A → ACall
  | [.lst (.one (.i .i16)) a0, .v (.int .i64 a1)] => ⟨Int, s_wheldRow a0 a1, fun r => .one (.v (.int .i64 r))⟩
  | _ => ACall.fail
theorem f_wheldRow_sound : Sound Try.prog 32 c_wheldRow := by
  refine sound_good f_wheldRow_ctx f_wheldRow_LV 2 Try.func32 (c := f_wheldRow_c) (by kernel_rfl) (rv := f_wheldRow_rv) (by kernel_rfl) (by kernel_rfl) (by kernel_rfl) (by kernel_rfl) fun rs => ?_
  unfold c_wheldRow
  split
  · rename_i a0 a1; intro v h; exact ⟨rfl, l_wheldRow v, rfl, (f_wheldRow_top a0 a1 _).trans (s_wheldRow_ok a0 a1 v h)⟩
  · intro v h; cases h

/-! ### function 9: loop.example/g01322/laws.heldRowS -/
noncomputable def f_wheldRowS_c : Code := match Try.f9.body with | some c => c | none => .skip
noncomputable def f_wheldRowS_X : Ctx := ⟨TT, phiOf [(32, c_wheldRow)], noPsi, noXi⟩
def f_wheldRowS_LV : List (Nat × Keep) := [(2, ([0, 1, 5], [], []))]
def f_wheldRowS_rv : List ResultVar := [.tmp 4]
noncomputable def f_wheldRowS_L (r : List A) : Nat → AS → Option (List A) := L f_wheldRowS_X (cnOf f_wheldRowS_LV) f_wheldRowS_c (K0 TT f_wheldRowS_rv) r
theorem f_wheldRowS_ctx : CtxOK Try.prog f_wheldRowS_X := ctx_of tab mix ⟨⟨Try.call32, f_wheldRow_sound⟩, trivial⟩
noncomputable def f_wheldRowS_s2 (x0 : Int) (x1 : Int) (x2 : (List (List Int))) : AS := ⟨[(0, .a (.sl 0)), (1, .a (.v (.int .i64 x0))), (5, .a (.v (.int .i64 x1)))], [(0, some ⟨false, .arr (.one (.ls .i16)) x2⟩)], 1⟩
noncomputable def l_wheldRowS (r : Int) : List A := [.v (.int .i64 r)]
theorem f_wheldRowS_step2 (x0 : Int) (x1 : Int) (x2 : (List (List Int))) (r : List A) (h : (cond (decide (x1 < ((List.length x2 : Nat) : Int))) (cond (inB x1 (List.length x2)) (Option.bind (s_wheldRow (List.getD x2 (Int.toNat x1) ([] : List Int)) x0) fun r1 => (cond (decide (r1 < 0)) (some [.v (.int .i64 (-1))]) (f_wheldRowS_L r 2 (f_wheldRowS_s2 r1 (IntKind.wrap .i64 (x1 + 1)) x2)))) none) (some [.v (.int .i64 x0)])) = some r) : f_wheldRowS_L r 2 (f_wheldRowS_s2 x0 x1 x2) = some r :=
  step_of' h (by kernel_rfl)
noncomputable def f_wheldRowS_n2 (x0 : Int) (x1 : Int) (x2 : (List (List Int))) : Option ((Int × Int × (List (List Int))) ⊕ Int) := (cond (decide (x1 < ((List.length x2 : Nat) : Int))) (cond (inB x1 (List.length x2)) (Option.bind (s_wheldRow (List.getD x2 (Int.toNat x1) ([] : List Int)) x0) fun r1 => (cond (decide (r1 < 0)) (some (Sum.inr (-1))) (some (Sum.inl (r1, (IntKind.wrap .i64 (x1 + 1)), x2))))) none) (some (Sum.inr x0)))
noncomputable def f_wheldRowS_run2 (x : (Int × Int × (List (List Int)))) : Option Int := iter (fun x => f_wheldRowS_n2 x.1 x.2.1 x.2.2) FU x
noncomputable def f_wheldRowS_G2 (r : List A) (x : (Int × Int × (List (List Int)))) : Prop := f_wheldRowS_L r 2 (f_wheldRowS_s2 x.1 x.2.1 x.2.2) = some r
noncomputable def f_wheldRowS_S2 (r : List A) : Int → Prop := fun v => r = l_wheldRowS v
theorem f_wheldRowS_go2 (r : List A) : ∀ x, sem (f_wheldRowS_S2 r) (f_wheldRowS_run2 x) → f_wheldRowS_G2 r x :=
  fun x => iter_sound (step := fun x => f_wheldRowS_n2 x.1 x.2.1 x.2.2) (fun x h => by
    unfold f_wheldRowS_n2 at h
    exact f_wheldRowS_step2 x.1 x.2.1 x.2.2 r ((sem_cond h (fun h => (sem_cond h (fun h => (sem_bind h fun r1 h => (sem_cond h (fun h => sem_got h fun q => some_eq q) (fun h => sem_got h fun q => q)))) (fun h => sem_none h))) (fun h => sem_got h fun q => some_eq q)))) FU x
noncomputable def s_wheldRowS (a0 : (List (List Int))) (a1 : Int) : Option Int := (f_wheldRowS_run2 (a1, 0, a0))
theorem f_wheldRowS_top (a0 : (List (List Int))) (a1 : Int) (r : List A) : ev f_wheldRowS_X (lpc (cnOf f_wheldRowS_LV) (f_wheldRowS_L r)) f_wheldRowS_c (K0 TT f_wheldRowS_rv) (enter [.lst (.one (.ls .i16)) a0, .v (.int .i64 a1)]) = (f_wheldRowS_L r 2 (f_wheldRowS_s2 a1 0 a0)) := by kernel_rfl
theorem s_wheldRowS_ok (a0 : (List (List Int))) (a1 : Int) (v : Int) (h : s_wheldRowS a0 a1 = some v) : (f_wheldRowS_L (l_wheldRowS v) 2 (f_wheldRowS_s2 a1 0 a0)) = some (l_wheldRowS v) := by
  unfold s_wheldRowS at h
  have go : ∀ r, sem (fun v => r = l_wheldRowS v) ((f_wheldRowS_run2 (a1, 0, a0))) → (f_wheldRowS_L r 2 (f_wheldRowS_s2 a1 0 a0)) = some r := fun r h => f_wheldRowS_go2 r _ h
  exact go (l_wheldRowS v) ⟨v, h, rfl⟩
noncomputable def c_wheldRowS : List A → ACall
  | [.lst (.one (.ls .i16)) a0, .v (.int .i64 a1)] => ⟨Int, s_wheldRowS a0 a1, fun r => .one (.v (.int .i64 r))⟩
  | _ => ACall.fail
theorem f_wheldRowS_sound : Sound Try.prog 9 c_wheldRowS := by
  refine sound_good f_wheldRowS_ctx f_wheldRowS_LV 2 Try.func9 (c := f_wheldRowS_c) (by kernel_rfl) (rv := f_wheldRowS_rv) (by kernel_rfl) (by kernel_rfl) (by kernel_rfl) (by kernel_rfl) fun rs => ?_
  unfold c_wheldRowS
  split
  · rename_i a0 a1; intro v h; exact ⟨rfl, l_wheldRowS v, rfl, (f_wheldRowS_top a0 a1 _).trans (s_wheldRowS_ok a0 a1 v h)⟩
  · intro v h; cases h
end Go.RR
