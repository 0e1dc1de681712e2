/- Marks; numbers and words of a text. -/
import Derived.Test.YtbmaolhjplapoaaDoorVa
import Derived.Test.YtbmaolhjplapoaaDoorRw
set_option linter.unusedVariables false
set_option linter.unusedSimpArgs false
set_option maxRecDepth 100000
namespace Go.RR
open Go Go.Proofs

/-! ### function 9: loop.example/g01322/laws.markRow -/
noncomputable def f_wmarkRow_c : Code := match Tryd.f9.body with | some c => c | none => .skip
noncomputable def f_wmarkRow_X : Ctx := ⟨TT, phiOf [], noPsi, noXi⟩
def f_wmarkRow_LV : List (Nat × Keep) := [(2, ([0, 1, 5], [], []))]
def f_wmarkRow_rv : List ResultVar := [.tmp 4]
noncomputable def f_wmarkRow_L (r : List A) : Nat → AS → Option (List A) := L f_wmarkRow_X (cnOfU f_wmarkRow_LV) f_wmarkRow_c (K0U TT f_wmarkRow_rv) r
theorem f_wmarkRow_ctx : CtxOK Tryd.prog f_wmarkRow_X := ctx_of tab mix trivial
noncomputable def f_wmarkRow_s2 (x0 : Int) (x1 : Int) (x2 : (List Int)) : AS := ⟨[(0, .a (.sl 0)), (1, .a (.v (.int .i64 x0))), (5, .a (.v (.int .i64 x1)))], [(0, some ⟨true, .arr (.one (.i .i16)) x2⟩)], 1⟩
noncomputable def l_wmarkRow (r : (Int × (List Int))) : List A := [.v (.int .i64 r.1), .lst (.one (.i .i16)) r.2]
theorem f_wmarkRow_step2 (x0 : Int) (x1 : Int) (x2 : (List Int)) (r : List A) (h : (cond (decide (x1 < ((List.length x2 : Nat) : Int))) (cond (inB x1 (List.length x2)) (f_wmarkRow_L r 2 (f_wmarkRow_s2 (IntKind.wrap .i64 (x0 + 1)) (IntKind.wrap .i64 (x1 + 1)) (List.set x2 (Int.toNat x1) (IntKind.wrap .i16 x0)))) none) (some [.v (.int .i64 x0), .lst (.one (.i .i16)) x2])) = some r) : f_wmarkRow_L r 2 (f_wmarkRow_s2 x0 x1 x2) = some r :=
  step_of' h (by kernel_rfl)
noncomputable def f_wmarkRow_n2 (x0 : Int) (x1 : Int) (x2 : (List Int)) : Option ((Int × Int × (List Int)) ⊕ (Int × (List Int))) := (cond (decide (x1 < ((List.length x2 : Nat) : Int))) (cond (inB x1 (List.length x2)) (some (Sum.inl ((IntKind.wrap .i64 (x0 + 1)), (IntKind.wrap .i64 (x1 + 1)), (List.set x2 (Int.toNat x1) (IntKind.wrap .i16 x0))))) none) (some (Sum.inr (x0, x2))))
noncomputable def f_wmarkRow_run2 (x : (Int × Int × (List Int))) : Option (Int × (List Int)) := iter (fun x => f_wmarkRow_n2 x.1 x.2.1 x.2.2) FU x
noncomputable def f_wmarkRow_G2 (r : List A) (x : (Int × Int × (List Int))) : Prop := f_wmarkRow_L r 2 (f_wmarkRow_s2 x.1 x.2.1 x.2.2) = some r
noncomputable def f_wmarkRow_S2 (r : List A) : (Int × (List Int)) → Prop := fun v => r = l_wmarkRow v
theorem f_wmarkRow_go2 (r : List A) : ∀ x, sem (f_wmarkRow_S2 r) (f_wmarkRow_run2 x) → f_wmarkRow_G2 r x :=
  fun x => iter_sound (step := fun x => f_wmarkRow_n2 x.1 x.2.1 x.2.2) (fun x h => by
    unfold f_wmarkRow_n2 at h
    exact f_wmarkRow_step2 x.1 x.2.1 x.2.2 r ((sem_cond h (fun h => (sem_cond h (fun h => sem_got h fun q => q) (fun h => sem_none h))) (fun h => sem_got h fun q => some_eq q)))) FU x
noncomputable def s_wmarkRow (a0 : (List Int)) (a1 : Int) : Option (Int × (List Int)) := (f_wmarkRow_run2 (a1, 0, a0))
theorem f_wmarkRow_top (a0 : (List Int)) (a1 : Int) (r : List A) : ev f_wmarkRow_X (lpc (cnOfU f_wmarkRow_LV) (f_wmarkRow_L r)) f_wmarkRow_c (K0U TT f_wmarkRow_rv) (enterU (.one (.i .i16)) a0 [.v (.int .i64 a1)]) = (f_wmarkRow_L r 2 (f_wmarkRow_s2 a1 0 a0)) := by kernel_rfl
theorem s_wmarkRow_ok (a0 : (List Int)) (a1 : Int) (v : (Int × (List Int))) (h : s_wmarkRow a0 a1 = some v) : (f_wmarkRow_L (l_wmarkRow v) 2 (f_wmarkRow_s2 a1 0 a0)) = some (l_wmarkRow v) := by
  unfold s_wmarkRow at h
  have go : ∀ r, sem (fun v => r = l_wmarkRow v) ((f_wmarkRow_run2 (a1, 0, a0))) → (f_wmarkRow_L r 2 (f_wmarkRow_s2 a1 0 a0)) = some r := fun r h => f_wmarkRow_go2 r _ h
  exact go (l_wmarkRow v) ⟨v, h, rfl⟩
noncomputable def u_wmarkRow : UCon := fun e l rest => match e, l, rest with
  | (.one (.i .i16)), a0, [.v (.int .i64 a1)] => ⟨(Int × (List Int)), s_wmarkRow a0 a1, fun r => some (.v (.int .i64 r.1)), fun r => r.2⟩
  | _, _, _ => UCall.fail
theorem f_wmarkRow_sound : USound Tryd.prog 9 u_wmarkRow := by
  refine sound_goodU f_wmarkRow_ctx f_wmarkRow_LV 2 Tryd.func9 (c := f_wmarkRow_c) (by kernel_rfl) (rv := f_wmarkRow_rv) (by kernel_rfl) (by kernel_rfl) (by kernel_rfl) (by kernel_rfl) fun e l rest => ?_
  unfold u_wmarkRow
  split
  · rename_i a0 a1; intro v h; exact ⟨rfl, (f_wmarkRow_top a0 a1 _).trans (s_wmarkRow_ok a0 a1 v h)⟩
  · intro v h; cases h

/-! ### function 36: loop.example/g01322/laws.markJobS -/
noncomputable def f_wmarkJobS_c : Code := match Tryd.f36.body with | some c => c | none => .skip
noncomputable def f_wmarkJobS_X : Ctx := ⟨TT, phiOf [], noPsi, noXi⟩
def f_wmarkJobS_LV : List (Nat × Keep) := [(2, ([0, 1, 5], [], []))]
def f_wmarkJobS_rv : List ResultVar := [.tmp 4]
noncomputable def f_wmarkJobS_L (r : List A) : Nat → AS → Option (List A) := L f_wmarkJobS_X (cnOfU f_wmarkJobS_LV) f_wmarkJobS_c (K0U TT f_wmarkJobS_rv) r
theorem f_wmarkJobS_ctx : CtxOK Tryd.prog f_wmarkJobS_X := ctx_of tab mix trivial
noncomputable def f_wmarkJobS_s2 (x0 : Int) (x1 : Int) (x2 : (List (Int × Int))) : AS := ⟨[(0, .a (.sl 0)), (1, .a (.v (.int .i64 x0))), (5, .a (.v (.int .i64 x1)))], [(0, some ⟨true, .arr (.st [(.i .i8), (.i .u16)]) x2⟩)], 1⟩
noncomputable def l_wmarkJobS (r : (Int × (List (Int × Int)))) : List A := [.v (.int .i64 r.1), .lst (.st [(.i .i8), (.i .u16)]) r.2]
theorem f_wmarkJobS_step2 (x0 : Int) (x1 : Int) (x2 : (List (Int × Int))) (r : List A) (h : (cond (decide (x1 < ((List.length x2 : Nat) : Int))) (cond (inB x1 (List.length x2)) (cond (inB x1 (List.length (List.set x2 (Int.toNat x1) ((IntKind.wrap .i8 x0), (List.getD x2 (Int.toNat x1) ((0, 0) : (Int × Int))).2)))) (f_wmarkJobS_L r 2 (f_wmarkJobS_s2 (IntKind.wrap .i64 ((IntKind.wrap .i64 (x0 + 1)) + 1)) (IntKind.wrap .i64 (x1 + 1)) (List.set (List.set x2 (Int.toNat x1) ((IntKind.wrap .i8 x0), (List.getD x2 (Int.toNat x1) ((0, 0) : (Int × Int))).2)) (Int.toNat x1) ((List.getD (List.set x2 (Int.toNat x1) ((IntKind.wrap .i8 x0), (List.getD x2 (Int.toNat x1) ((0, 0) : (Int × Int))).2)) (Int.toNat x1) ((0, 0) : (Int × Int))).1, (IntKind.wrap .u16 (IntKind.wrap .i64 (x0 + 1))))))) none) none) (some [.v (.int .i64 x0), .lst (.st [(.i .i8), (.i .u16)]) x2])) = some r) : f_wmarkJobS_L r 2 (f_wmarkJobS_s2 x0 x1 x2) = some r :=
  step_of' h (by kernel_rfl)
noncomputable def f_wmarkJobS_n2 (x0 : Int) (x1 : Int) (x2 : (List (Int × Int))) : Option ((Int × Int × (List (Int × Int))) ⊕ (Int × (List (Int × Int)))) := (cond (decide (x1 < ((List.length x2 : Nat) : Int))) (cond (inB x1 (List.length x2)) (cond (inB x1 (List.length (List.set x2 (Int.toNat x1) ((IntKind.wrap .i8 x0), (List.getD x2 (Int.toNat x1) ((0, 0) : (Int × Int))).2)))) (some (Sum.inl ((IntKind.wrap .i64 ((IntKind.wrap .i64 (x0 + 1)) + 1)), (IntKind.wrap .i64 (x1 + 1)), (List.set (List.set x2 (Int.toNat x1) ((IntKind.wrap .i8 x0), (List.getD x2 (Int.toNat x1) ((0, 0) : (Int × Int))).2)) (Int.toNat x1) ((List.getD (List.set x2 (Int.toNat x1) ((IntKind.wrap .i8 x0), (List.getD x2 (Int.toNat x1) ((0, 0) : (Int × Int))).2)) (Int.toNat x1) ((0, 0) : (Int × Int))).1, (IntKind.wrap .u16 (IntKind.wrap .i64 (x0 + 1)))))))) none) none) (some (Sum.inr (x0, x2))))
noncomputable def f_wmarkJobS_run2 (x : (Int × Int × (List (Int × Int)))) : Option (Int × (List (Int × Int))) := iter (fun x => f_wmarkJobS_n2 x.1 x.2.1 x.2.2) FU x
noncomputable def f_wmarkJobS_G2 (r : List A) (x : (Int × Int × (List (Int × Int)))) : Prop := f_wmarkJobS_L r 2 (f_wmarkJobS_s2 x.1 x.2.1 x.2.2) = some r
noncomputable def f_wmarkJobS_S2 (r : List A) : (Int × (List (Int × Int))) → Prop := fun v => r = l_wmarkJobS v
theorem f_wmarkJobS_go2 (r : List A) : ∀ x, sem (f_wmarkJobS_S2 r) (f_wmarkJobS_run2 x) → f_wmarkJobS_G2 r x :=
  fun x => iter_sound (step := fun x => f_wmarkJobS_n2 x.1 x.2.1 x.2.2) (fun x h => by
    unfold f_wmarkJobS_n2 at h
    exact f_wmarkJobS_step2 x.1 x.2.1 x.2.2 r ((sem_cond h (fun h => (sem_cond h (fun h => (sem_cond h (fun h => sem_got h fun q => q) (fun h => sem_none h))) (fun h => sem_none h))) (fun h => sem_got h fun q => some_eq q)))) FU x
noncomputable def s_wmarkJobS (a0 : (List (Int × Int))) (a1 : Int) : Option (Int × (List (Int × Int))) := (f_wmarkJobS_run2 (a1, 0, a0))
theorem f_wmarkJobS_top (a0 : (List (Int × Int))) (a1 : Int) (r : List A) : ev f_wmarkJobS_X (lpc (cnOfU f_wmarkJobS_LV) (f_wmarkJobS_L r)) f_wmarkJobS_c (K0U TT f_wmarkJobS_rv) (enterU (.st [(.i .i8), (.i .u16)]) a0 [.v (.int .i64 a1)]) = (f_wmarkJobS_L r 2 (f_wmarkJobS_s2 a1 0 a0)) := by kernel_rfl
theorem s_wmarkJobS_ok (a0 : (List (Int × Int))) (a1 : Int) (v : (Int × (List (Int × Int)))) (h : s_wmarkJobS a0 a1 = some v) : (f_wmarkJobS_L (l_wmarkJobS v) 2 (f_wmarkJobS_s2 a1 0 a0)) = some (l_wmarkJobS v) := by
  unfold s_wmarkJobS at h
  have go : ∀ r, sem (fun v => r = l_wmarkJobS v) ((f_wmarkJobS_run2 (a1, 0, a0))) → (f_wmarkJobS_L r 2 (f_wmarkJobS_s2 a1 0 a0)) = some r := fun r h => f_wmarkJobS_go2 r _ h
  exact go (l_wmarkJobS v) ⟨v, h, rfl⟩
noncomputable def u_wmarkJobS : UCon := fun e l rest => match e, l, rest with
  | (.st [(.i .i8), (.i .u16)]), a0, [.v (.int .i64 a1)] => ⟨(Int × (List (Int × Int))), s_wmarkJobS a0 a1, fun r => some (.v (.int .i64 r.1)), fun r => r.2⟩
  | _, _, _ => UCall.fail
theorem f_wmarkJobS_sound : USound Tryd.prog 36 u_wmarkJobS := by
  refine sound_goodU f_wmarkJobS_ctx f_wmarkJobS_LV 2 Tryd.func36 (c := f_wmarkJobS_c) (by kernel_rfl) (rv := f_wmarkJobS_rv) (by kernel_rfl) (by kernel_rfl) (by kernel_rfl) (by kernel_rfl) fun e l rest => ?_
  unfold u_wmarkJobS
  split
  · rename_i a0 a1; intro v h; exact ⟨rfl, (f_wmarkJobS_top a0 a1 _).trans (s_wmarkJobS_ok a0 a1 v h)⟩
  · intro v h; cases h

/-! ### function 38: loop.example/g01322/spec.l01Split -/
noncomputable def f_sl01Split_c : Code := match Tryd.f38.body with | some c => c | none => .skip
noncomputable def f_sl01Split_X : Ctx := ⟨TT, phiOf [], noPsi, noXi⟩
def f_sl01Split_LV : List (Nat × Keep) := [(4, ([0, 1, 5, 6, 7], [], []))]
def f_sl01Split_rv : List ResultVar := [.tmp 4]
noncomputable def f_sl01Split_L (r : List A) : Nat → AS → Option (List A) := L f_sl01Split_X (cnOf f_sl01Split_LV) f_sl01Split_c (K0 TT f_sl01Split_rv) r
theorem f_sl01Split_ctx : CtxOK Tryd.prog f_sl01Split_X := ctx_of tab mix trivial
noncomputable def f_sl01Split_s4 (x0 : ByteArray) (x1 : Int) (x2 : Int) (x3 : Int) (x4 : (List ByteArray)) : AS := ⟨[(0, .a (.v (.string x0))), (1, .a (.v (.int .u8 x1))), (5, .a (.sl 0)), (6, .a (.v (.int .i64 x2))), (7, .a (.v (.int .i64 x3)))], [(0, some ⟨true, .arr (.one .s) x4⟩)], 1⟩
noncomputable def l_sl01Split (r : (List ByteArray)) : List A := [.lst (.one .s) r]
theorem f_sl01Split_step4 (x0 : ByteArray) (x1 : Int) (x2 : Int) (x3 : Int) (x4 : (List ByteArray)) (r : List A) (h : (cond (decide (x3 < ((x0.size : Nat) : Int))) (cond (inB x3 x0.size) (cond ((byteAt x0 (Int.toNat x3)) == x1) (cond (inS x2 x3 x0.size) (cond (fits ((List.length (x4 : List ByteArray) + List.length ([(ByteArray.extract x0 (Int.toNat x2) (Int.toNat x3))] : List ByteArray)) * 16)) (f_sl01Split_L r 4 (f_sl01Split_s4 x0 x1 (IntKind.wrap .i64 (x3 + 1)) (IntKind.wrap .i64 (x3 + 1)) (x4 ++ [(ByteArray.extract x0 (Int.toNat x2) (Int.toNat x3))]))) none) none) (f_sl01Split_L r 4 (f_sl01Split_s4 x0 x1 x2 (IntKind.wrap .i64 (x3 + 1)) x4))) none) (cond (inS x2 (x0.size : Int) x0.size) (cond (fits ((List.length (x4 : List ByteArray) + List.length ([(ByteArray.extract x0 (Int.toNat x2) (Int.toNat (x0.size : Int)))] : List ByteArray)) * 16)) (some [.lst (.one .s) (x4 ++ [(ByteArray.extract x0 (Int.toNat x2) (Int.toNat (x0.size : Int)))])]) none) none)) = some r) : f_sl01Split_L r 4 (f_sl01Split_s4 x0 x1 x2 x3 x4) = some r :=
  step_of' h (by kernel_rfl)
noncomputable def f_sl01Split_n4 (x0 : ByteArray) (x1 : Int) (x2 : Int) (x3 : Int) (x4 : (List ByteArray)) : Option ((ByteArray × Int × Int × Int × (List ByteArray)) ⊕ (List ByteArray)) := (cond (decide (x3 < ((x0.size : Nat) : Int))) (cond (inB x3 x0.size) (cond ((byteAt x0 (Int.toNat x3)) == x1) (cond (inS x2 x3 x0.size) (cond (fits ((List.length (x4 : List ByteArray) + List.length ([(ByteArray.extract x0 (Int.toNat x2) (Int.toNat x3))] : List ByteArray)) * 16)) (some (Sum.inl (x0, x1, (IntKind.wrap .i64 (x3 + 1)), (IntKind.wrap .i64 (x3 + 1)), (x4 ++ [(ByteArray.extract x0 (Int.toNat x2) (Int.toNat x3))])))) none) none) (some (Sum.inl (x0, x1, x2, (IntKind.wrap .i64 (x3 + 1)), x4)))) none) (cond (inS x2 (x0.size : Int) x0.size) (cond (fits ((List.length (x4 : List ByteArray) + List.length ([(ByteArray.extract x0 (Int.toNat x2) (Int.toNat (x0.size : Int)))] : List ByteArray)) * 16)) (some (Sum.inr (x4 ++ [(ByteArray.extract x0 (Int.toNat x2) (Int.toNat (x0.size : Int)))]))) none) none))
noncomputable def f_sl01Split_run4 (x : (ByteArray × Int × Int × Int × (List ByteArray))) : Option (List ByteArray) := iter (fun x => f_sl01Split_n4 x.1 x.2.1 x.2.2.1 x.2.2.2.1 x.2.2.2.2) FU x
noncomputable def f_sl01Split_G4 (r : List A) (x : (ByteArray × Int × Int × Int × (List ByteArray))) : Prop := f_sl01Split_L r 4 (f_sl01Split_s4 x.1 x.2.1 x.2.2.1 x.2.2.2.1 x.2.2.2.2) = some r
noncomputable def f_sl01Split_S4 (r : List A) : (List ByteArray) → Prop := fun v => r = l_sl01Split v
theorem f_sl01Split_go4 (r : List A) : ∀ x, sem (f_sl01Split_S4 r) (f_sl01Split_run4 x) → f_sl01Split_G4 r x :=
  fun x => iter_sound (step := fun x => f_sl01Split_n4 x.1 x.2.1 x.2.2.1 x.2.2.2.1 x.2.2.2.2) (fun x h => by
    unfold f_sl01Split_n4 at h
    exact f_sl01Split_step4 x.1 x.2.1 x.2.2.1 x.2.2.2.1 x.2.2.2.2 r ((sem_cond h (fun h => (sem_cond h (fun h => (sem_cond h (fun h => (sem_cond h (fun h => (sem_cond h (fun h => sem_got h fun q => q) (fun h => sem_none h))) (fun h => sem_none h))) (fun h => sem_got h fun q => q))) (fun h => sem_none h))) (fun h => (sem_cond h (fun h => (sem_cond h (fun h => sem_got h fun q => some_eq q) (fun h => sem_none h))) (fun h => sem_none h)))))) FU x
noncomputable def s_sl01Split (a0 : ByteArray) (a1 : Int) : Option (List ByteArray) := (f_sl01Split_run4 (a0, a1, 0, 0, []))
theorem f_sl01Split_top (a0 : ByteArray) (a1 : Int) (r : List A) : ev f_sl01Split_X (lpc (cnOf f_sl01Split_LV) (f_sl01Split_L r)) f_sl01Split_c (K0 TT f_sl01Split_rv) (enter [.v (.string a0), .v (.int .u8 a1)]) = (f_sl01Split_L r 4 (f_sl01Split_s4 a0 a1 0 0 [])) := by kernel_rfl
theorem s_sl01Split_ok (a0 : ByteArray) (a1 : Int) (v : (List ByteArray)) (h : s_sl01Split a0 a1 = some v) : (f_sl01Split_L (l_sl01Split v) 4 (f_sl01Split_s4 a0 a1 0 0 [])) = some (l_sl01Split v) := by
  unfold s_sl01Split at h
  have go : ∀ r, sem (fun v => r = l_sl01Split v) ((f_sl01Split_run4 (a0, a1, 0, 0, []))) → (f_sl01Split_L r 4 (f_sl01Split_s4 a0 a1 0 0 [])) = some r := fun r h => f_sl01Split_go4 r _ h
  exact go (l_sl01Split v) ⟨v, h, rfl⟩
noncomputable def c_sl01Split : List A → ACall
  | [.v (.string a0), .v (.int .u8 a1)] => ⟨(List ByteArray), s_sl01Split a0 a1, fun r => .one (.lst (.one .s) r)⟩
  | _ => ACall.fail
theorem f_sl01Split_sound : Sound Tryd.prog 38 c_sl01Split := by
  refine sound_good f_sl01Split_ctx f_sl01Split_LV 2 Tryd.func38 (c := f_sl01Split_c) (by kernel_rfl) (rv := f_sl01Split_rv) (by kernel_rfl) (by kernel_rfl) (by kernel_rfl) (by kernel_rfl) fun rs => ?_
  unfold c_sl01Split
  split
  · rename_i a0 a1; intro v h; exact ⟨rfl, l_sl01Split v, rfl, (f_sl01Split_top a0 a1 _).trans (s_sl01Split_ok a0 a1 v h)⟩
  · intro v h; cases h

/-! ### function 39: loop.example/g01322/spec.l01Number -/
noncomputable def f_sl01Number_c : Code := match Tryd.f39.body with | some c => c | none => .skip
noncomputable def f_sl01Number_X : Ctx := ⟨TT, phiOf [], noPsi, noXi⟩
def f_sl01Number_LV : List (Nat × Keep) := [(5, ([0, 4, 5], [], []))]
def f_sl01Number_rv : List ResultVar := [.tmp 2, .tmp 3]
noncomputable def f_sl01Number_L (r : List A) : Nat → AS → Option (List A) := L f_sl01Number_X (cnOf f_sl01Number_LV) f_sl01Number_c (K0 TT f_sl01Number_rv) r
theorem f_sl01Number_ctx : CtxOK Tryd.prog f_sl01Number_X := ctx_of tab mix trivial
noncomputable def f_sl01Number_s5 (x0 : ByteArray) (x1 : Int) (x2 : Int) : AS := ⟨[(0, .a (.v (.string x0))), (4, .a (.v (.int .i64 x1))), (5, .a (.v (.int .i64 x2)))], [], 0⟩
noncomputable def l_sl01Number (r : (Int × Bool)) : List A := [.v (.int .i64 r.1), .v (.bool r.2)]
theorem f_sl01Number_step5 (x0 : ByteArray) (x1 : Int) (x2 : Int) (r : List A) (h : (cond (decide (x2 < ((x0.size : Nat) : Int))) (cond (inB x2 x0.size) (cond (decide ((byteAt x0 (Int.toNat x2)) < 48)) (some [.v (.int .i64 0), .v (.bool false)]) (cond (inB x2 x0.size) (cond (decide ((byteAt x0 (Int.toNat x2)) > 57)) (some [.v (.int .i64 0), .v (.bool false)]) (cond (inB x2 x0.size) (f_sl01Number_L r 5 (f_sl01Number_s5 x0 (IntKind.wrap .i64 ((IntKind.wrap .i64 (10 * x1)) + (IntKind.wrap .i64 (IntKind.wrap .u8 ((byteAt x0 (Int.toNat x2)) - 48))))) (IntKind.wrap .i64 (x2 + 1)))) none)) none)) none) (some [.v (.int .i64 x1), .v (.bool true)])) = some r) : f_sl01Number_L r 5 (f_sl01Number_s5 x0 x1 x2) = some r :=
  step_of' h (by kernel_rfl)
noncomputable def f_sl01Number_n5 (x0 : ByteArray) (x1 : Int) (x2 : Int) : Option ((ByteArray × Int × Int) ⊕ (Int × Bool)) := (cond (decide (x2 < ((x0.size : Nat) : Int))) (cond (inB x2 x0.size) (cond (decide ((byteAt x0 (Int.toNat x2)) < 48)) (some (Sum.inr (0, false))) (cond (inB x2 x0.size) (cond (decide ((byteAt x0 (Int.toNat x2)) > 57)) (some (Sum.inr (0, false))) (cond (inB x2 x0.size) (some (Sum.inl (x0, (IntKind.wrap .i64 ((IntKind.wrap .i64 (10 * x1)) + (IntKind.wrap .i64 (IntKind.wrap .u8 ((byteAt x0 (Int.toNat x2)) - 48))))), (IntKind.wrap .i64 (x2 + 1))))) none)) none)) none) (some (Sum.inr (x1, true))))
noncomputable def f_sl01Number_run5 (x : (ByteArray × Int × Int)) : Option (Int × Bool) := iter (fun x => f_sl01Number_n5 x.1 x.2.1 x.2.2) FU x
noncomputable def f_sl01Number_G5 (r : List A) (x : (ByteArray × Int × Int)) : Prop := f_sl01Number_L r 5 (f_sl01Number_s5 x.1 x.2.1 x.2.2) = some r
noncomputable def f_sl01Number_S5 (r : List A) : (Int × Bool) → Prop := fun v => r = l_sl01Number v
theorem f_sl01Number_go5 (r : List A) : ∀ x, sem (f_sl01Number_S5 r) (f_sl01Number_run5 x) → f_sl01Number_G5 r x :=
  fun x => iter_sound (step := fun x => f_sl01Number_n5 x.1 x.2.1 x.2.2) (fun x h => by
    unfold f_sl01Number_n5 at h
    exact f_sl01Number_step5 x.1 x.2.1 x.2.2 r ((sem_cond h (fun h => (sem_cond h (fun h => (sem_cond h (fun h => sem_got h fun q => some_eq q) (fun h => (sem_cond h (fun h => (sem_cond h (fun h => sem_got h fun q => some_eq q) (fun h => (sem_cond h (fun h => sem_got h fun q => q) (fun h => sem_none h))))) (fun h => sem_none h))))) (fun h => sem_none h))) (fun h => sem_got h fun q => some_eq q)))) FU x
noncomputable def s_sl01Number (a0 : ByteArray) : Option (Int × Bool) := (cond (a0.toList == (⟨#[]⟩ : ByteArray).toList) (some (0, false)) (cond (decide (((a0.size : Nat) : Int) > 10)) (some (0, false)) (cond (inB 0 a0.size) (cond ((byteAt a0 0) == 48) (cond (decide (((a0.size : Nat) : Int) > 1)) (some (0, false)) (f_sl01Number_run5 (a0, 0, 0))) (f_sl01Number_run5 (a0, 0, 0))) none)))
theorem f_sl01Number_top (a0 : ByteArray) (r : List A) : ev f_sl01Number_X (lpc (cnOf f_sl01Number_LV) (f_sl01Number_L r)) f_sl01Number_c (K0 TT f_sl01Number_rv) (enter [.v (.string a0)]) = (cond (a0.toList == (⟨#[]⟩ : ByteArray).toList) (some [.v (.int .i64 0), .v (.bool false)]) (cond (decide (((a0.size : Nat) : Int) > 10)) (some [.v (.int .i64 0), .v (.bool false)]) (cond (inB 0 a0.size) (cond ((byteAt a0 0) == 48) (cond (decide (((a0.size : Nat) : Int) > 1)) (some [.v (.int .i64 0), .v (.bool false)]) (f_sl01Number_L r 5 (f_sl01Number_s5 a0 0 0))) (f_sl01Number_L r 5 (f_sl01Number_s5 a0 0 0))) none))) := by kernel_rfl
theorem s_sl01Number_ok (a0 : ByteArray) (v : (Int × Bool)) (h : s_sl01Number a0 = some v) : (cond (a0.toList == (⟨#[]⟩ : ByteArray).toList) (some [.v (.int .i64 0), .v (.bool false)]) (cond (decide (((a0.size : Nat) : Int) > 10)) (some [.v (.int .i64 0), .v (.bool false)]) (cond (inB 0 a0.size) (cond ((byteAt a0 0) == 48) (cond (decide (((a0.size : Nat) : Int) > 1)) (some [.v (.int .i64 0), .v (.bool false)]) (f_sl01Number_L (l_sl01Number v) 5 (f_sl01Number_s5 a0 0 0))) (f_sl01Number_L (l_sl01Number v) 5 (f_sl01Number_s5 a0 0 0))) none))) = some (l_sl01Number v) := by
  unfold s_sl01Number at h
  have go : ∀ r, sem (fun v => r = l_sl01Number v) ((cond (a0.toList == (⟨#[]⟩ : ByteArray).toList) (some (0, false)) (cond (decide (((a0.size : Nat) : Int) > 10)) (some (0, false)) (cond (inB 0 a0.size) (cond ((byteAt a0 0) == 48) (cond (decide (((a0.size : Nat) : Int) > 1)) (some (0, false)) (f_sl01Number_run5 (a0, 0, 0))) (f_sl01Number_run5 (a0, 0, 0))) none)))) → (cond (a0.toList == (⟨#[]⟩ : ByteArray).toList) (some [.v (.int .i64 0), .v (.bool false)]) (cond (decide (((a0.size : Nat) : Int) > 10)) (some [.v (.int .i64 0), .v (.bool false)]) (cond (inB 0 a0.size) (cond ((byteAt a0 0) == 48) (cond (decide (((a0.size : Nat) : Int) > 1)) (some [.v (.int .i64 0), .v (.bool false)]) (f_sl01Number_L r 5 (f_sl01Number_s5 a0 0 0))) (f_sl01Number_L r 5 (f_sl01Number_s5 a0 0 0))) none))) = some r := fun r h => (sem_cond h (fun h => sem_got h fun q => some_eq q) (fun h => (sem_cond h (fun h => sem_got h fun q => some_eq q) (fun h => (sem_cond h (fun h => (sem_cond h (fun h => (sem_cond h (fun h => sem_got h fun q => some_eq q) (fun h => f_sl01Number_go5 r _ h))) (fun h => f_sl01Number_go5 r _ h))) (fun h => sem_none h))))))
  exact go (l_sl01Number v) ⟨v, h, rfl⟩
noncomputable def c_sl01Number : List A → ACall
  | [.v (.string a0)] => ⟨(Int × Bool), s_sl01Number a0, fun r => .tup [.v (.int .i64 r.1), .v (.bool r.2)]⟩
  | _ => ACall.fail
theorem f_sl01Number_sound : Sound Tryd.prog 39 c_sl01Number := by
  refine sound_good f_sl01Number_ctx f_sl01Number_LV 1 Tryd.func39 (c := f_sl01Number_c) (by kernel_rfl) (rv := f_sl01Number_rv) (by kernel_rfl) (by kernel_rfl) (by kernel_rfl) (by kernel_rfl) fun rs => ?_
  unfold c_sl01Number
  split
  · rename_i a0; intro v h; exact ⟨rfl, l_sl01Number v, rfl, (f_sl01Number_top a0 _).trans (s_sl01Number_ok a0 v h)⟩
  · intro v h; cases h
end Go.RR
