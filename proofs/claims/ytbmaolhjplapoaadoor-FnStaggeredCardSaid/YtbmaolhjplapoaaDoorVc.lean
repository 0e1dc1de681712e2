/- Stones along a path; turns. -/
import Derived.Test.YtbmaolhjplapoaaDoorVb
import Derived.Test.YtbmaolhjplapoaaDoorRz
set_option linter.unusedVariables false
set_option linter.unusedSimpArgs false
set_option linter.unusedSectionVars false
set_option maxRecDepth 100000
namespace Go.RR
open Go Go.Proofs

/-! ### function 54: loop.example/g01322/impl.within -/
noncomputable def f_iwithin_c : Code := match Tryd.f54.body with | some c => c | none => .skip
noncomputable def f_iwithin_X : Ctx := ⟨TT, phiOf [], noPsi, noXi⟩
def f_iwithin_LV : List (Nat × Keep) := []
def f_iwithin_rv : List ResultVar := [.tmp 6]
noncomputable def f_iwithin_L (r : List A) : Nat → AS → Option (List A) := L f_iwithin_X (cnOf f_iwithin_LV) f_iwithin_c (K0 TT f_iwithin_rv) r
theorem f_iwithin_ctx : CtxOK Tryd.prog f_iwithin_X := ctx_of tab mix trivial
noncomputable def s_iwithin (a0 : Int) (a1 : Int) (a2 : Int) : Bool := (cond (decide (a1 ≤ a0)) (decide (a0 ≤ a2)) false)
theorem f_iwithin_top (a0 : Int) (a1 : Int) (a2 : Int) (r : List A) : ev f_iwithin_X (lpc (cnOf f_iwithin_LV) (f_iwithin_L r)) f_iwithin_c (K0 TT f_iwithin_rv) (enter [.v (.int .i64 a0), .v (.int .i64 a1), .v (.int .i64 a2)]) = (cond (decide (a1 ≤ a0)) (some [.v (.bool (decide (a0 ≤ a2)))]) (some [.v (.bool false)])) := by kernel_rfl
noncomputable def l_iwithin (r : Bool) : List A := [.v (.bool r)]
theorem s_iwithin_ok (a0 : Int) (a1 : Int) (a2 : Int) : (cond (decide (a1 ≤ a0)) (some [.v (.bool (decide (a0 ≤ a2)))]) (some [.v (.bool false)])) = some (l_iwithin (s_iwithin a0 a1 a2)) := by
  unfold s_iwithin
  exact (cond_app (fun x => some (l_iwithin x)) rfl rfl)
noncomputable def c_iwithin : List A → ACall
  | [.v (.int .i64 a0), .v (.int .i64 a1), .v (.int .i64 a2)] => ⟨Bool, some (s_iwithin a0 a1 a2), fun r => .one (.v (.bool r))⟩
  | _ => ACall.fail
theorem f_iwithin_sound : Sound Tryd.prog 54 c_iwithin := by
  refine sound_good f_iwithin_ctx f_iwithin_LV 3 Tryd.func54 (c := f_iwithin_c) (by kernel_rfl) (rv := f_iwithin_rv) (by kernel_rfl) (by kernel_rfl) (by kernel_rfl) (by kernel_rfl) fun rs => ?_
  unfold c_iwithin
  split
  · rename_i a0 a1 a2; intro v h; cases h; exact ⟨rfl, l_iwithin (s_iwithin a0 a1 a2), rfl, (f_iwithin_top a0 a1 a2 _).trans (s_iwithin_ok a0 a1 a2)⟩
  · intro v h; cases h

/-! ### function 45: loop.example/g01322/impl.isLong -/
noncomputable def f_iisLong_c : Code := match Tryd.f45.body with | some c => c | none => .skip
noncomputable def f_iisLong_X : Ctx := ⟨TT, phiOf [(54, c_iwithin)], noPsi, noXi⟩
def f_iisLong_LV : List (Nat × Keep) := []
def f_iisLong_rv : List ResultVar := [.tmp 2]
noncomputable def f_iisLong_L (r : List A) : Nat → AS → Option (List A) := L f_iisLong_X (cnOf f_iisLong_LV) f_iisLong_c (K0 TT f_iisLong_rv) r
theorem f_iisLong_ctx : CtxOK Tryd.prog f_iisLong_X := ctx_of tab mix ⟨⟨Tryd.call54, f_iwithin_sound⟩, trivial⟩
noncomputable def s_iisLong (a0 : Int) : Bool := (s_iwithin a0 1 2000)
theorem f_iisLong_top (a0 : Int) (r : List A) : ev f_iisLong_X (lpc (cnOf f_iisLong_LV) (f_iisLong_L r)) f_iisLong_c (K0 TT f_iisLong_rv) (enter [.v (.int .i64 a0)]) = (some [.v (.bool (s_iwithin a0 1 2000))]) := by kernel_rfl
noncomputable def l_iisLong (r : Bool) : List A := [.v (.bool r)]
theorem s_iisLong_ok (a0 : Int) : (some [.v (.bool (s_iwithin a0 1 2000))]) = some (l_iisLong (s_iisLong a0)) := by
  unfold s_iisLong
  exact rfl
noncomputable def c_iisLong : List A → ACall
  | [.v (.int .i64 a0)] => ⟨Bool, some (s_iisLong a0), fun r => .one (.v (.bool r))⟩
  | _ => ACall.fail
theorem f_iisLong_sound : Sound Tryd.prog 45 c_iisLong := by
  refine sound_good f_iisLong_ctx f_iisLong_LV 1 Tryd.func45 (c := f_iisLong_c) (by kernel_rfl) (rv := f_iisLong_rv) (by kernel_rfl) (by kernel_rfl) (by kernel_rfl) (by kernel_rfl) fun rs => ?_
  unfold c_iisLong
  split
  · rename_i a0; intro v h; cases h; exact ⟨rfl, l_iisLong (s_iisLong a0), rfl, (f_iisLong_top a0 _).trans (s_iisLong_ok a0)⟩
  · intro v h; cases h

/-! ### function 71: loop.example/g01322/impl.straights -/
noncomputable def f_istraights_c : Code := match Tryd.f71.body with | some c => c | none => .skip
noncomputable def f_istraights_X : Ctx := ⟨TT, phiOf [(45, c_iisLong), (92, c_stringsTrim), (93, c_stringsIndexByte)], noPsi, noXi⟩
def f_istraights_LV : List (Nat × Keep) := [(5, ([0, 4, 17, 18], [], []))]
def f_istraights_rv : List ResultVar := [.tmp 2, .tmp 3]
noncomputable def f_istraights_L (r : List A) : Nat → AS → Option (List A) := L f_istraights_X (cnOf f_istraights_LV) f_istraights_c (K0 TT f_istraights_rv) r
theorem f_istraights_ctx : CtxOK Tryd.prog f_istraights_X := ctx_of tab mix ⟨⟨Tryd.call45, f_iisLong_sound⟩, ⟨Tryd.call92, f_stringsTrim_sound⟩, ⟨Tryd.call93, f_stringsIndexByte_sound⟩, trivial⟩
noncomputable def f_istraights_s5 (x0 : ByteArray) (x1 : Int) (x2 : Int) (x3 : (List Int)) : AS := ⟨[(0, .a (.v (.string x0))), (4, .a (.sl 0)), (17, .a (.v (.int .i64 x1))), (18, .a (.v (.int .i64 x2)))], [(0, some ⟨true, .arr (.one (.i .i64)) x3⟩)], 1⟩
noncomputable def l_istraights (r : ((List Int) × Bool)) : List A := [.lst (.one (.i .i64)) r.1, .v (.bool r.2)]
theorem f_istraights_step5 (x0 : ByteArray) (x1 : Int) (x2 : Int) (x3 : (List Int)) (r : List A) (h : (cond (decide (x2 < x1)) (cond (inB x2 x0.size) (cond (decide ((s_stringsIndexByte (⟨#[110, 101, 115, 119]⟩ : ByteArray) (byteAt x0 (Int.toNat x2))) < 0)) (some [.lst (.one (.i .i64)) [], .v (.bool false)]) (cond (decide (x2 > 0)) (cond (inB x2 x0.size) (cond (inB (IntKind.wrap .i64 (x2 - 1)) x0.size) (cond ((byteAt x0 (Int.toNat x2)) == (byteAt x0 (Int.toNat (IntKind.wrap .i64 (x2 - 1))))) (cond (inB (IntKind.wrap .i64 (((List.length x3 : Nat) : Int) - 1)) (List.length x3)) (cond (inB (IntKind.wrap .i64 (((List.length x3 : Nat) : Int) - 1)) (List.length x3)) (f_istraights_L r 5 (f_istraights_s5 x0 x1 (IntKind.wrap .i64 (x2 + 1)) (List.set x3 (Int.toNat (IntKind.wrap .i64 (((List.length x3 : Nat) : Int) - 1))) (IntKind.wrap .i64 ((List.getD x3 (Int.toNat (IntKind.wrap .i64 (((List.length x3 : Nat) : Int) - 1))) 0) + 1))))) none) none) (cond (fits ((List.length (x3 : List Int) + List.length ([1] : List Int)) * 8)) (f_istraights_L r 5 (f_istraights_s5 x0 x1 (IntKind.wrap .i64 (x2 + 1)) (x3 ++ [1]))) none)) none) none) (cond (fits ((List.length (x3 : List Int) + List.length ([1] : List Int)) * 8)) (f_istraights_L r 5 (f_istraights_s5 x0 x1 (IntKind.wrap .i64 (x2 + 1)) (x3 ++ [1]))) none))) none) (some [.lst (.one (.i .i64)) x3, .v (.bool true)])) = some r) : f_istraights_L r 5 (f_istraights_s5 x0 x1 x2 x3) = some r :=
  step_of' h (by kernel_rfl)
noncomputable def f_istraights_n5 (x0 : ByteArray) (x1 : Int) (x2 : Int) (x3 : (List Int)) : Option ((ByteArray × Int × Int × (List Int)) ⊕ ((List Int) × Bool)) := (cond (decide (x2 < x1)) (cond (inB x2 x0.size) (cond (decide ((s_stringsIndexByte (⟨#[110, 101, 115, 119]⟩ : ByteArray) (byteAt x0 (Int.toNat x2))) < 0)) (some (Sum.inr ([], false))) (cond (decide (x2 > 0)) (cond (inB x2 x0.size) (cond (inB (IntKind.wrap .i64 (x2 - 1)) x0.size) (cond ((byteAt x0 (Int.toNat x2)) == (byteAt x0 (Int.toNat (IntKind.wrap .i64 (x2 - 1))))) (cond (inB (IntKind.wrap .i64 (((List.length x3 : Nat) : Int) - 1)) (List.length x3)) (cond (inB (IntKind.wrap .i64 (((List.length x3 : Nat) : Int) - 1)) (List.length x3)) (some (Sum.inl (x0, x1, (IntKind.wrap .i64 (x2 + 1)), (List.set x3 (Int.toNat (IntKind.wrap .i64 (((List.length x3 : Nat) : Int) - 1))) (IntKind.wrap .i64 ((List.getD x3 (Int.toNat (IntKind.wrap .i64 (((List.length x3 : Nat) : Int) - 1))) 0) + 1)))))) none) none) (cond (fits ((List.length (x3 : List Int) + List.length ([1] : List Int)) * 8)) (some (Sum.inl (x0, x1, (IntKind.wrap .i64 (x2 + 1)), (x3 ++ [1])))) none)) none) none) (cond (fits ((List.length (x3 : List Int) + List.length ([1] : List Int)) * 8)) (some (Sum.inl (x0, x1, (IntKind.wrap .i64 (x2 + 1)), (x3 ++ [1])))) none))) none) (some (Sum.inr (x3, true))))
noncomputable def f_istraights_run5 (x : (ByteArray × Int × Int × (List Int))) : Option ((List Int) × Bool) := iter (fun x => f_istraights_n5 x.1 x.2.1 x.2.2.1 x.2.2.2) FU x
noncomputable def f_istraights_G5 (r : List A) (x : (ByteArray × Int × Int × (List Int))) : Prop := f_istraights_L r 5 (f_istraights_s5 x.1 x.2.1 x.2.2.1 x.2.2.2) = some r
noncomputable def f_istraights_S5 (r : List A) : ((List Int) × Bool) → Prop := fun v => r = l_istraights v
theorem f_istraights_go5 (r : List A) : ∀ x, sem (f_istraights_S5 r) (f_istraights_run5 x) → f_istraights_G5 r x :=
  fun x => iter_sound (step := fun x => f_istraights_n5 x.1 x.2.1 x.2.2.1 x.2.2.2) (fun x h => by
    unfold f_istraights_n5 at h
    exact f_istraights_step5 x.1 x.2.1 x.2.2.1 x.2.2.2 r ((sem_cond h (fun h => (sem_cond h (fun h => (sem_cond h (fun h => sem_got h fun q => some_eq q) (fun h => (sem_cond h (fun h => (sem_cond h (fun h => (sem_cond h (fun h => (sem_cond h (fun h => (sem_cond h (fun h => (sem_cond h (fun h => sem_got h fun q => q) (fun h => sem_none h))) (fun h => sem_none h))) (fun h => (sem_cond h (fun h => sem_got h fun q => q) (fun h => sem_none h))))) (fun h => sem_none h))) (fun h => sem_none h))) (fun h => (sem_cond h (fun h => sem_got h fun q => q) (fun h => sem_none h))))))) (fun h => sem_none h))) (fun h => sem_got h fun q => some_eq q)))) FU x
noncomputable def s_istraights (a0 : ByteArray) : Option ((List Int) × Bool) := (cond (!(s_iisLong ((a0.size : Nat) : Int))) (some ([], false)) (Option.bind (s_stringsTrim a0 (⟨#[110, 101, 115, 119]⟩ : ByteArray)) fun r1 => (cond (!(r1.toList == (⟨#[]⟩ : ByteArray).toList)) (some ([], false)) (f_istraights_run5 (a0, ((a0.size : Nat) : Int), 0, [])))))
theorem f_istraights_top (a0 : ByteArray) (r : List A) : ev f_istraights_X (lpc (cnOf f_istraights_LV) (f_istraights_L r)) f_istraights_c (K0 TT f_istraights_rv) (enter [.v (.string a0)]) = (cond (!(s_iisLong ((a0.size : Nat) : Int))) (some [.lst (.one (.i .i64)) [], .v (.bool false)]) (Option.bind (s_stringsTrim a0 (⟨#[110, 101, 115, 119]⟩ : ByteArray)) fun r1 => (cond (!(r1.toList == (⟨#[]⟩ : ByteArray).toList)) (some [.lst (.one (.i .i64)) [], .v (.bool false)]) (f_istraights_L r 5 (f_istraights_s5 a0 ((a0.size : Nat) : Int) 0 []))))) := by kernel_rfl
theorem s_istraights_ok (a0 : ByteArray) (v : ((List Int) × Bool)) (h : s_istraights a0 = some v) : (cond (!(s_iisLong ((a0.size : Nat) : Int))) (some [.lst (.one (.i .i64)) [], .v (.bool false)]) (Option.bind (s_stringsTrim a0 (⟨#[110, 101, 115, 119]⟩ : ByteArray)) fun r1 => (cond (!(r1.toList == (⟨#[]⟩ : ByteArray).toList)) (some [.lst (.one (.i .i64)) [], .v (.bool false)]) (f_istraights_L (l_istraights v) 5 (f_istraights_s5 a0 ((a0.size : Nat) : Int) 0 []))))) = some (l_istraights v) := by
  unfold s_istraights at h
  have go : ∀ r, sem (fun v => r = l_istraights v) ((cond (!(s_iisLong ((a0.size : Nat) : Int))) (some ([], false)) (Option.bind (s_stringsTrim a0 (⟨#[110, 101, 115, 119]⟩ : ByteArray)) fun r1 => (cond (!(r1.toList == (⟨#[]⟩ : ByteArray).toList)) (some ([], false)) (f_istraights_run5 (a0, ((a0.size : Nat) : Int), 0, [])))))) → (cond (!(s_iisLong ((a0.size : Nat) : Int))) (some [.lst (.one (.i .i64)) [], .v (.bool false)]) (Option.bind (s_stringsTrim a0 (⟨#[110, 101, 115, 119]⟩ : ByteArray)) fun r1 => (cond (!(r1.toList == (⟨#[]⟩ : ByteArray).toList)) (some [.lst (.one (.i .i64)) [], .v (.bool false)]) (f_istraights_L r 5 (f_istraights_s5 a0 ((a0.size : Nat) : Int) 0 []))))) = some r := fun r h => (sem_cond h (fun h => sem_got h fun q => some_eq q) (fun h => (sem_bind h fun r1 h => (sem_cond h (fun h => sem_got h fun q => some_eq q) (fun h => f_istraights_go5 r _ h)))))
  exact go (l_istraights v) ⟨v, h, rfl⟩
noncomputable def c_istraights : List A → ACall
  | [.v (.string a0)] => ⟨((List Int) × Bool), s_istraights a0, fun r => .tup [.lst (.one (.i .i64)) r.1, .v (.bool r.2)]⟩
  | _ => ACall.fail
theorem f_istraights_sound : Sound Tryd.prog 71 c_istraights := by
  refine sound_good f_istraights_ctx f_istraights_LV 1 Tryd.func71 (c := f_istraights_c) (by kernel_rfl) (rv := f_istraights_rv) (by kernel_rfl) (by kernel_rfl) (by kernel_rfl) (by kernel_rfl) fun rs => ?_
  unfold c_istraights
  split
  · rename_i a0; intro v h; exact ⟨rfl, l_istraights v, rfl, (f_istraights_top a0 _).trans (s_istraights_ok a0 v h)⟩
  · intro v h; cases h

/-! ### function 28: loop.example/g01322/impl.TurnsOf -/
noncomputable def f_iTurnsOf_c : Code := match Tryd.f28.body with | some c => c | none => .skip
noncomputable def f_iTurnsOf_X : Ctx := ⟨TT, phiOf [(71, c_istraights)], noPsi, noXi⟩
def f_iTurnsOf_LV : List (Nat × Keep) := []
def f_iTurnsOf_rv : List ResultVar := [.tmp 2, .tmp 3, .tmp 4]
noncomputable def f_iTurnsOf_L (r : List A) : Nat → AS → Option (List A) := L f_iTurnsOf_X (cnOf f_iTurnsOf_LV) f_iTurnsOf_c (K0 TT f_iTurnsOf_rv) r
theorem f_iTurnsOf_ctx : CtxOK Tryd.prog f_iTurnsOf_X := ctx_of tab mix ⟨⟨Tryd.call71, f_istraights_sound⟩, trivial⟩
noncomputable def s_iTurnsOf (a0 : ByteArray) : Option (Int × (List Int) × Int) := (Option.bind (s_istraights a0) fun r1 => (cond (!r1.2) (some (0, [], 5)) (some ((IntKind.wrap .i64 (((List.length r1.1 : Nat) : Int) - 1)), (r1.1), 0))))
theorem f_iTurnsOf_top (a0 : ByteArray) (r : List A) : ev f_iTurnsOf_X (lpc (cnOf f_iTurnsOf_LV) (f_iTurnsOf_L r)) f_iTurnsOf_c (K0 TT f_iTurnsOf_rv) (enter [.v (.string a0)]) = (Option.bind (s_istraights a0) fun r1 => (cond (!r1.2) (some [.v (.int .i64 0), .lst (.one (.i .i64)) [], .v (.int .i64 5)]) (some [.v (.int .i64 (IntKind.wrap .i64 (((List.length r1.1 : Nat) : Int) - 1))), .lst (.one (.i .i64)) r1.1, .v (.int .i64 0)]))) := by kernel_rfl
noncomputable def l_iTurnsOf (r : (Int × (List Int) × Int)) : List A := [.v (.int .i64 r.1), .lst (.one (.i .i64)) r.2.1, .v (.int .i64 r.2.2)]
theorem s_iTurnsOf_ok (a0 : ByteArray) (v : (Int × (List Int) × Int)) (h : s_iTurnsOf a0 = some v) : (Option.bind (s_istraights a0) fun r1 => (cond (!r1.2) (some [.v (.int .i64 0), .lst (.one (.i .i64)) [], .v (.int .i64 5)]) (some [.v (.int .i64 (IntKind.wrap .i64 (((List.length r1.1 : Nat) : Int) - 1))), .lst (.one (.i .i64)) r1.1, .v (.int .i64 0)]))) = some (l_iTurnsOf v) := by
  have e : (Option.bind (s_istraights a0) fun r1 => (cond (!r1.2) (some [.v (.int .i64 0), .lst (.one (.i .i64)) [], .v (.int .i64 5)]) (some [.v (.int .i64 (IntKind.wrap .i64 (((List.length r1.1 : Nat) : Int) - 1))), .lst (.one (.i .i64)) r1.1, .v (.int .i64 0)]))) = Option.map l_iTurnsOf (s_iTurnsOf a0) := by
    unfold s_iTurnsOf
    exact (bind_app fun _ => (cond_app (Option.map l_iTurnsOf) rfl rfl))
  rw [e, h]; rfl
noncomputable def c_iTurnsOf : List A → ACall
  | [.v (.string a0)] => ⟨(Int × (List Int) × Int), s_iTurnsOf a0, fun r => .tup [.v (.int .i64 r.1), .lst (.one (.i .i64)) r.2.1, .v (.int .i64 r.2.2)]⟩
  | _ => ACall.fail
theorem f_iTurnsOf_sound : Sound Tryd.prog 28 c_iTurnsOf := by
  refine sound_good f_iTurnsOf_ctx f_iTurnsOf_LV 1 Tryd.func28 (c := f_iTurnsOf_c) (by kernel_rfl) (rv := f_iTurnsOf_rv) (by kernel_rfl) (by kernel_rfl) (by kernel_rfl) (by kernel_rfl) fun rs => ?_
  unfold c_iTurnsOf
  split
  · rename_i a0; intro v h; exact ⟨rfl, l_iTurnsOf v, rfl, (f_iTurnsOf_top a0 _).trans (s_iTurnsOf_ok a0 v h)⟩
  · intro v h; cases h

/-! ### function 57: loop.example/g01322/spec.l00In -/
noncomputable def f_sl00In_c : Code := match Tryd.f57.body with | some c => c | none => .skip
noncomputable def f_sl00In_X : Ctx := ⟨TT, phiOf [], noPsi, noXi⟩
def f_sl00In_LV : List (Nat × Keep) := []
def f_sl00In_rv : List ResultVar := [.tmp 6]
noncomputable def f_sl00In_L (r : List A) : Nat → AS → Option (List A) := L f_sl00In_X (cnOf f_sl00In_LV) f_sl00In_c (K0 TT f_sl00In_rv) r
theorem f_sl00In_ctx : CtxOK Tryd.prog f_sl00In_X := ctx_of tab mix trivial
noncomputable def s_sl00In (a0 : Int) (a1 : Int) (a2 : Int) : Bool := (cond (decide (a0 ≥ a1)) (decide (a0 ≤ a2)) false)
theorem f_sl00In_top (a0 : Int) (a1 : Int) (a2 : Int) (r : List A) : ev f_sl00In_X (lpc (cnOf f_sl00In_LV) (f_sl00In_L r)) f_sl00In_c (K0 TT f_sl00In_rv) (enter [.v (.int .i64 a0), .v (.int .i64 a1), .v (.int .i64 a2)]) = (cond (decide (a0 ≥ a1)) (some [.v (.bool (decide (a0 ≤ a2)))]) (some [.v (.bool false)])) := by kernel_rfl
noncomputable def l_sl00In (r : Bool) : List A := [.v (.bool r)]
theorem s_sl00In_ok (a0 : Int) (a1 : Int) (a2 : Int) : (cond (decide (a0 ≥ a1)) (some [.v (.bool (decide (a0 ≤ a2)))]) (some [.v (.bool false)])) = some (l_sl00In (s_sl00In a0 a1 a2)) := by
  unfold s_sl00In
  exact (cond_app (fun x => some (l_sl00In x)) rfl rfl)
noncomputable def c_sl00In : List A → ACall
  | [.v (.int .i64 a0), .v (.int .i64 a1), .v (.int .i64 a2)] => ⟨Bool, some (s_sl00In a0 a1 a2), fun r => .one (.v (.bool r))⟩
  | _ => ACall.fail
theorem f_sl00In_sound : Sound Tryd.prog 57 c_sl00In := by
  refine sound_good f_sl00In_ctx f_sl00In_LV 3 Tryd.func57 (c := f_sl00In_c) (by kernel_rfl) (rv := f_sl00In_rv) (by kernel_rfl) (by kernel_rfl) (by kernel_rfl) (by kernel_rfl) fun rs => ?_
  unfold c_sl00In
  split
  · rename_i a0 a1 a2; intro v h; cases h; exact ⟨rfl, l_sl00In (s_sl00In a0 a1 a2), rfl, (f_sl00In_top a0 a1 a2 _).trans (s_sl00In_ok a0 a1 a2)⟩
  · intro v h; cases h

/-! ### function 72: loop.example/g01322/spec.l05Path -/
noncomputable def f_sl05Path_c : Code := match Tryd.f72.body with | some c => c | none => .skip
noncomputable def f_sl05Path_X : Ctx := ⟨TT, phiOf [(57, c_sl00In)], noPsi, noXi⟩
def f_sl05Path_LV : List (Nat × Keep) := [(3, ([0, 4, 5], [], []))]
def f_sl05Path_rv : List ResultVar := [.tmp 2, .tmp 3]
noncomputable def f_sl05Path_L (r : List A) : Nat → AS → Option (List A) := L f_sl05Path_X (cnOf f_sl05Path_LV) f_sl05Path_c (K0 TT f_sl05Path_rv) r
theorem f_sl05Path_ctx : CtxOK Tryd.prog f_sl05Path_X := ctx_of tab mix ⟨⟨Tryd.call57, f_sl00In_sound⟩, trivial⟩
noncomputable def f_sl05Path_s3 (x0 : ByteArray) (x1 : Int) (x2 : (List Int)) : AS := ⟨[(0, .a (.v (.string x0))), (4, .a (.sl 0)), (5, .a (.v (.int .i64 x1)))], [(0, some ⟨true, .arr (.one (.i .i64)) x2⟩)], 1⟩
noncomputable def l_sl05Path (r : ((List Int) × Bool)) : List A := [.lst (.one (.i .i64)) r.1, .v (.bool r.2)]
theorem f_sl05Path_step3 (x0 : ByteArray) (x1 : Int) (x2 : (List Int)) (r : List A) (h : (cond (decide (x1 < ((x0.size : Nat) : Int))) (cond (inB x1 x0.size) (cond ((byteAt x0 (Int.toNat x1)) != 110) (cond ((byteAt x0 (Int.toNat x1)) != 101) (cond ((byteAt x0 (Int.toNat x1)) != 115) (cond ((byteAt x0 (Int.toNat x1)) != 119) (some [.lst (.one (.i .i64)) [], .v (.bool false)]) (cond (decide (x1 > 0)) (cond (inB (IntKind.wrap .i64 (x1 - 1)) x0.size) (cond ((byteAt x0 (Int.toNat (IntKind.wrap .i64 (x1 - 1)))) == (byteAt x0 (Int.toNat x1))) (cond (inB (IntKind.wrap .i64 (((List.length x2 : Nat) : Int) - 1)) (List.length x2)) (cond (inB (IntKind.wrap .i64 (((List.length x2 : Nat) : Int) - 1)) (List.length x2)) (f_sl05Path_L r 3 (f_sl05Path_s3 x0 (IntKind.wrap .i64 (x1 + 1)) (List.set x2 (Int.toNat (IntKind.wrap .i64 (((List.length x2 : Nat) : Int) - 1))) (IntKind.wrap .i64 ((List.getD x2 (Int.toNat (IntKind.wrap .i64 (((List.length x2 : Nat) : Int) - 1))) 0) + 1))))) none) none) (cond (fits ((List.length (x2 : List Int) + List.length ([1] : List Int)) * 8)) (f_sl05Path_L r 3 (f_sl05Path_s3 x0 (IntKind.wrap .i64 (x1 + 1)) (x2 ++ [1]))) none)) none) (cond (fits ((List.length (x2 : List Int) + List.length ([1] : List Int)) * 8)) (f_sl05Path_L r 3 (f_sl05Path_s3 x0 (IntKind.wrap .i64 (x1 + 1)) (x2 ++ [1]))) none))) (cond (decide (x1 > 0)) (cond (inB (IntKind.wrap .i64 (x1 - 1)) x0.size) (cond ((byteAt x0 (Int.toNat (IntKind.wrap .i64 (x1 - 1)))) == (byteAt x0 (Int.toNat x1))) (cond (inB (IntKind.wrap .i64 (((List.length x2 : Nat) : Int) - 1)) (List.length x2)) (cond (inB (IntKind.wrap .i64 (((List.length x2 : Nat) : Int) - 1)) (List.length x2)) (f_sl05Path_L r 3 (f_sl05Path_s3 x0 (IntKind.wrap .i64 (x1 + 1)) (List.set x2 (Int.toNat (IntKind.wrap .i64 (((List.length x2 : Nat) : Int) - 1))) (IntKind.wrap .i64 ((List.getD x2 (Int.toNat (IntKind.wrap .i64 (((List.length x2 : Nat) : Int) - 1))) 0) + 1))))) none) none) (cond (fits ((List.length (x2 : List Int) + List.length ([1] : List Int)) * 8)) (f_sl05Path_L r 3 (f_sl05Path_s3 x0 (IntKind.wrap .i64 (x1 + 1)) (x2 ++ [1]))) none)) none) (cond (fits ((List.length (x2 : List Int) + List.length ([1] : List Int)) * 8)) (f_sl05Path_L r 3 (f_sl05Path_s3 x0 (IntKind.wrap .i64 (x1 + 1)) (x2 ++ [1]))) none))) (cond (decide (x1 > 0)) (cond (inB (IntKind.wrap .i64 (x1 - 1)) x0.size) (cond ((byteAt x0 (Int.toNat (IntKind.wrap .i64 (x1 - 1)))) == (byteAt x0 (Int.toNat x1))) (cond (inB (IntKind.wrap .i64 (((List.length x2 : Nat) : Int) - 1)) (List.length x2)) (cond (inB (IntKind.wrap .i64 (((List.length x2 : Nat) : Int) - 1)) (List.length x2)) (f_sl05Path_L r 3 (f_sl05Path_s3 x0 (IntKind.wrap .i64 (x1 + 1)) (List.set x2 (Int.toNat (IntKind.wrap .i64 (((List.length x2 : Nat) : Int) - 1))) (IntKind.wrap .i64 ((List.getD x2 (Int.toNat (IntKind.wrap .i64 (((List.length x2 : Nat) : Int) - 1))) 0) + 1))))) none) none) (cond (fits ((List.length (x2 : List Int) + List.length ([1] : List Int)) * 8)) (f_sl05Path_L r 3 (f_sl05Path_s3 x0 (IntKind.wrap .i64 (x1 + 1)) (x2 ++ [1]))) none)) none) (cond (fits ((List.length (x2 : List Int) + List.length ([1] : List Int)) * 8)) (f_sl05Path_L r 3 (f_sl05Path_s3 x0 (IntKind.wrap .i64 (x1 + 1)) (x2 ++ [1]))) none))) (cond (decide (x1 > 0)) (cond (inB (IntKind.wrap .i64 (x1 - 1)) x0.size) (cond ((byteAt x0 (Int.toNat (IntKind.wrap .i64 (x1 - 1)))) == (byteAt x0 (Int.toNat x1))) (cond (inB (IntKind.wrap .i64 (((List.length x2 : Nat) : Int) - 1)) (List.length x2)) (cond (inB (IntKind.wrap .i64 (((List.length x2 : Nat) : Int) - 1)) (List.length x2)) (f_sl05Path_L r 3 (f_sl05Path_s3 x0 (IntKind.wrap .i64 (x1 + 1)) (List.set x2 (Int.toNat (IntKind.wrap .i64 (((List.length x2 : Nat) : Int) - 1))) (IntKind.wrap .i64 ((List.getD x2 (Int.toNat (IntKind.wrap .i64 (((List.length x2 : Nat) : Int) - 1))) 0) + 1))))) none) none) (cond (fits ((List.length (x2 : List Int) + List.length ([1] : List Int)) * 8)) (f_sl05Path_L r 3 (f_sl05Path_s3 x0 (IntKind.wrap .i64 (x1 + 1)) (x2 ++ [1]))) none)) none) (cond (fits ((List.length (x2 : List Int) + List.length ([1] : List Int)) * 8)) (f_sl05Path_L r 3 (f_sl05Path_s3 x0 (IntKind.wrap .i64 (x1 + 1)) (x2 ++ [1]))) none))) none) (some [.lst (.one (.i .i64)) x2, .v (.bool (s_sl00In ((x0.size : Nat) : Int) 1 2000))])) = some r) : f_sl05Path_L r 3 (f_sl05Path_s3 x0 x1 x2) = some r :=
  step_of' h (by kernel_rfl)
noncomputable def f_sl05Path_n3 (x0 : ByteArray) (x1 : Int) (x2 : (List Int)) : Option ((ByteArray × Int × (List Int)) ⊕ ((List Int) × Bool)) := (cond (decide (x1 < ((x0.size : Nat) : Int))) (cond (inB x1 x0.size) (cond ((byteAt x0 (Int.toNat x1)) != 110) (cond ((byteAt x0 (Int.toNat x1)) != 101) (cond ((byteAt x0 (Int.toNat x1)) != 115) (cond ((byteAt x0 (Int.toNat x1)) != 119) (some (Sum.inr ([], false))) (cond (decide (x1 > 0)) (cond (inB (IntKind.wrap .i64 (x1 - 1)) x0.size) (cond ((byteAt x0 (Int.toNat (IntKind.wrap .i64 (x1 - 1)))) == (byteAt x0 (Int.toNat x1))) (cond (inB (IntKind.wrap .i64 (((List.length x2 : Nat) : Int) - 1)) (List.length x2)) (cond (inB (IntKind.wrap .i64 (((List.length x2 : Nat) : Int) - 1)) (List.length x2)) (some (Sum.inl (x0, (IntKind.wrap .i64 (x1 + 1)), (List.set x2 (Int.toNat (IntKind.wrap .i64 (((List.length x2 : Nat) : Int) - 1))) (IntKind.wrap .i64 ((List.getD x2 (Int.toNat (IntKind.wrap .i64 (((List.length x2 : Nat) : Int) - 1))) 0) + 1)))))) none) none) (cond (fits ((List.length (x2 : List Int) + List.length ([1] : List Int)) * 8)) (some (Sum.inl (x0, (IntKind.wrap .i64 (x1 + 1)), (x2 ++ [1])))) none)) none) (cond (fits ((List.length (x2 : List Int) + List.length ([1] : List Int)) * 8)) (some (Sum.inl (x0, (IntKind.wrap .i64 (x1 + 1)), (x2 ++ [1])))) none))) (cond (decide (x1 > 0)) (cond (inB (IntKind.wrap .i64 (x1 - 1)) x0.size) (cond ((byteAt x0 (Int.toNat (IntKind.wrap .i64 (x1 - 1)))) == (byteAt x0 (Int.toNat x1))) (cond (inB (IntKind.wrap .i64 (((List.length x2 : Nat) : Int) - 1)) (List.length x2)) (cond (inB (IntKind.wrap .i64 (((List.length x2 : Nat) : Int) - 1)) (List.length x2)) (some (Sum.inl (x0, (IntKind.wrap .i64 (x1 + 1)), (List.set x2 (Int.toNat (IntKind.wrap .i64 (((List.length x2 : Nat) : Int) - 1))) (IntKind.wrap .i64 ((List.getD x2 (Int.toNat (IntKind.wrap .i64 (((List.length x2 : Nat) : Int) - 1))) 0) + 1)))))) none) none) (cond (fits ((List.length (x2 : List Int) + List.length ([1] : List Int)) * 8)) (some (Sum.inl (x0, (IntKind.wrap .i64 (x1 + 1)), (x2 ++ [1])))) none)) none) (cond (fits ((List.length (x2 : List Int) + List.length ([1] : List Int)) * 8)) (some (Sum.inl (x0, (IntKind.wrap .i64 (x1 + 1)), (x2 ++ [1])))) none))) (cond (decide (x1 > 0)) (cond (inB (IntKind.wrap .i64 (x1 - 1)) x0.size) (cond ((byteAt x0 (Int.toNat (IntKind.wrap .i64 (x1 - 1)))) == (byteAt x0 (Int.toNat x1))) (cond (inB (IntKind.wrap .i64 (((List.length x2 : Nat) : Int) - 1)) (List.length x2)) (cond (inB (IntKind.wrap .i64 (((List.length x2 : Nat) : Int) - 1)) (List.length x2)) (some (Sum.inl (x0, (IntKind.wrap .i64 (x1 + 1)), (List.set x2 (Int.toNat (IntKind.wrap .i64 (((List.length x2 : Nat) : Int) - 1))) (IntKind.wrap .i64 ((List.getD x2 (Int.toNat (IntKind.wrap .i64 (((List.length x2 : Nat) : Int) - 1))) 0) + 1)))))) none) none) (cond (fits ((List.length (x2 : List Int) + List.length ([1] : List Int)) * 8)) (some (Sum.inl (x0, (IntKind.wrap .i64 (x1 + 1)), (x2 ++ [1])))) none)) none) (cond (fits ((List.length (x2 : List Int) + List.length ([1] : List Int)) * 8)) (some (Sum.inl (x0, (IntKind.wrap .i64 (x1 + 1)), (x2 ++ [1])))) none))) (cond (decide (x1 > 0)) (cond (inB (IntKind.wrap .i64 (x1 - 1)) x0.size) (cond ((byteAt x0 (Int.toNat (IntKind.wrap .i64 (x1 - 1)))) == (byteAt x0 (Int.toNat x1))) (cond (inB (IntKind.wrap .i64 (((List.length x2 : Nat) : Int) - 1)) (List.length x2)) (cond (inB (IntKind.wrap .i64 (((List.length x2 : Nat) : Int) - 1)) (List.length x2)) (some (Sum.inl (x0, (IntKind.wrap .i64 (x1 + 1)), (List.set x2 (Int.toNat (IntKind.wrap .i64 (((List.length x2 : Nat) : Int) - 1))) (IntKind.wrap .i64 ((List.getD x2 (Int.toNat (IntKind.wrap .i64 (((List.length x2 : Nat) : Int) - 1))) 0) + 1)))))) none) none) (cond (fits ((List.length (x2 : List Int) + List.length ([1] : List Int)) * 8)) (some (Sum.inl (x0, (IntKind.wrap .i64 (x1 + 1)), (x2 ++ [1])))) none)) none) (cond (fits ((List.length (x2 : List Int) + List.length ([1] : List Int)) * 8)) (some (Sum.inl (x0, (IntKind.wrap .i64 (x1 + 1)), (x2 ++ [1])))) none))) none) (some (Sum.inr (x2, (s_sl00In ((x0.size : Nat) : Int) 1 2000)))))
noncomputable def f_sl05Path_run3 (x : (ByteArray × Int × (List Int))) : Option ((List Int) × Bool) := iter (fun x => f_sl05Path_n3 x.1 x.2.1 x.2.2) FU x
noncomputable def f_sl05Path_G3 (r : List A) (x : (ByteArray × Int × (List Int))) : Prop := f_sl05Path_L r 3 (f_sl05Path_s3 x.1 x.2.1 x.2.2) = some r
noncomputable def f_sl05Path_S3 (r : List A) : ((List Int) × Bool) → Prop := fun v => r = l_sl05Path v
theorem f_sl05Path_go3 (r : List A) : ∀ x, sem (f_sl05Path_S3 r) (f_sl05Path_run3 x) → f_sl05Path_G3 r x :=
  fun x => iter_sound (step := fun x => f_sl05Path_n3 x.1 x.2.1 x.2.2) (fun x h => by
    unfold f_sl05Path_n3 at h
    exact f_sl05Path_step3 x.1 x.2.1 x.2.2 r ((sem_cond h (fun h => (sem_cond h (fun h => (sem_cond h (fun h => (sem_cond h (fun h => (sem_cond h (fun h => (sem_cond h (fun h => sem_got h fun q => some_eq q) (fun h => (sem_cond h (fun h => (sem_cond h (fun h => (sem_cond h (fun h => (sem_cond h (fun h => (sem_cond h (fun h => sem_got h fun q => q) (fun h => sem_none h))) (fun h => sem_none h))) (fun h => (sem_cond h (fun h => sem_got h fun q => q) (fun h => sem_none h))))) (fun h => sem_none h))) (fun h => (sem_cond h (fun h => sem_got h fun q => q) (fun h => sem_none h))))))) (fun h => (sem_cond h (fun h => (sem_cond h (fun h => (sem_cond h (fun h => (sem_cond h (fun h => (sem_cond h (fun h => sem_got h fun q => q) (fun h => sem_none h))) (fun h => sem_none h))) (fun h => (sem_cond h (fun h => sem_got h fun q => q) (fun h => sem_none h))))) (fun h => sem_none h))) (fun h => (sem_cond h (fun h => sem_got h fun q => q) (fun h => sem_none h))))))) (fun h => (sem_cond h (fun h => (sem_cond h (fun h => (sem_cond h (fun h => (sem_cond h (fun h => (sem_cond h (fun h => sem_got h fun q => q) (fun h => sem_none h))) (fun h => sem_none h))) (fun h => (sem_cond h (fun h => sem_got h fun q => q) (fun h => sem_none h))))) (fun h => sem_none h))) (fun h => (sem_cond h (fun h => sem_got h fun q => q) (fun h => sem_none h))))))) (fun h => (sem_cond h (fun h => (sem_cond h (fun h => (sem_cond h (fun h => (sem_cond h (fun h => (sem_cond h (fun h => sem_got h fun q => q) (fun h => sem_none h))) (fun h => sem_none h))) (fun h => (sem_cond h (fun h => sem_got h fun q => q) (fun h => sem_none h))))) (fun h => sem_none h))) (fun h => (sem_cond h (fun h => sem_got h fun q => q) (fun h => sem_none h))))))) (fun h => sem_none h))) (fun h => sem_got h fun q => some_eq q)))) FU x
noncomputable def s_sl05Path (a0 : ByteArray) : Option ((List Int) × Bool) := (f_sl05Path_run3 (a0, 0, []))
theorem f_sl05Path_top (a0 : ByteArray) (r : List A) : ev f_sl05Path_X (lpc (cnOf f_sl05Path_LV) (f_sl05Path_L r)) f_sl05Path_c (K0 TT f_sl05Path_rv) (enter [.v (.string a0)]) = (f_sl05Path_L r 3 (f_sl05Path_s3 a0 0 [])) := by kernel_rfl
theorem s_sl05Path_ok (a0 : ByteArray) (v : ((List Int) × Bool)) (h : s_sl05Path a0 = some v) : (f_sl05Path_L (l_sl05Path v) 3 (f_sl05Path_s3 a0 0 [])) = some (l_sl05Path v) := by
  unfold s_sl05Path at h
  have go : ∀ r, sem (fun v => r = l_sl05Path v) ((f_sl05Path_run3 (a0, 0, []))) → (f_sl05Path_L r 3 (f_sl05Path_s3 a0 0 [])) = some r := fun r h => f_sl05Path_go3 r _ h
  exact go (l_sl05Path v) ⟨v, h, rfl⟩
noncomputable def c_sl05Path : List A → ACall
  | [.v (.string a0)] => ⟨((List Int) × Bool), s_sl05Path a0, fun r => .tup [.lst (.one (.i .i64)) r.1, .v (.bool r.2)]⟩
  | _ => ACall.fail
theorem f_sl05Path_sound : Sound Tryd.prog 72 c_sl05Path := by
  refine sound_good f_sl05Path_ctx f_sl05Path_LV 1 Tryd.func72 (c := f_sl05Path_c) (by kernel_rfl) (rv := f_sl05Path_rv) (by kernel_rfl) (by kernel_rfl) (by kernel_rfl) (by kernel_rfl) fun rs => ?_
  unfold c_sl05Path
  split
  · rename_i a0; intro v h; exact ⟨rfl, l_sl05Path v, rfl, (f_sl05Path_top a0 _).trans (s_sl05Path_ok a0 v h)⟩
  · intro v h; cases h

/-! ### function 29: loop.example/g01322/spec.TurnsOf -/
noncomputable def f_sTurnsOf_c : Code := match Tryd.f29.body with | some c => c | none => .skip
noncomputable def f_sTurnsOf_X : Ctx := ⟨TT, phiOf [(72, c_sl05Path)], noPsi, noXi⟩
def f_sTurnsOf_LV : List (Nat × Keep) := []
def f_sTurnsOf_rv : List ResultVar := [.tmp 2, .tmp 3, .tmp 4]
noncomputable def f_sTurnsOf_L (r : List A) : Nat → AS → Option (List A) := L f_sTurnsOf_X (cnOf f_sTurnsOf_LV) f_sTurnsOf_c (K0 TT f_sTurnsOf_rv) r
theorem f_sTurnsOf_ctx : CtxOK Tryd.prog f_sTurnsOf_X := ctx_of tab mix ⟨⟨Tryd.call72, f_sl05Path_sound⟩, trivial⟩
noncomputable def s_sTurnsOf (a0 : ByteArray) : Option (Int × (List Int) × Int) := (Option.bind (s_sl05Path a0) fun r1 => (cond (!r1.2) (some (0, [], 5)) (some ((IntKind.wrap .i64 (((List.length r1.1 : Nat) : Int) - 1)), (r1.1), 0))))
theorem f_sTurnsOf_top (a0 : ByteArray) (r : List A) : ev f_sTurnsOf_X (lpc (cnOf f_sTurnsOf_LV) (f_sTurnsOf_L r)) f_sTurnsOf_c (K0 TT f_sTurnsOf_rv) (enter [.v (.string a0)]) = (Option.bind (s_sl05Path a0) fun r1 => (cond (!r1.2) (some [.v (.int .i64 0), .lst (.one (.i .i64)) [], .v (.int .i64 5)]) (some [.v (.int .i64 (IntKind.wrap .i64 (((List.length r1.1 : Nat) : Int) - 1))), .lst (.one (.i .i64)) r1.1, .v (.int .i64 0)]))) := by kernel_rfl
noncomputable def l_sTurnsOf (r : (Int × (List Int) × Int)) : List A := [.v (.int .i64 r.1), .lst (.one (.i .i64)) r.2.1, .v (.int .i64 r.2.2)]
theorem s_sTurnsOf_ok (a0 : ByteArray) (v : (Int × (List Int) × Int)) (h : s_sTurnsOf a0 = some v) : (Option.bind (s_sl05Path a0) fun r1 => (cond (!r1.2) (some [.v (.int .i64 0), .lst (.one (.i .i64)) [], .v (.int .i64 5)]) (some [.v (.int .i64 (IntKind.wrap .i64 (((List.length r1.1 : Nat) : Int) - 1))), .lst (.one (.i .i64)) r1.1, .v (.int .i64 0)]))) = some (l_sTurnsOf v) := by
  have e : (Option.bind (s_sl05Path a0) fun r1 => (cond (!r1.2) (some [.v (.int .i64 0), .lst (.one (.i .i64)) [], .v (.int .i64 5)]) (some [.v (.int .i64 (IntKind.wrap .i64 (((List.length r1.1 : Nat) : Int) - 1))), .lst (.one (.i .i64)) r1.1, .v (.int .i64 0)]))) = Option.map l_sTurnsOf (s_sTurnsOf a0) := by
    unfold s_sTurnsOf
    exact (bind_app fun _ => (cond_app (Option.map l_sTurnsOf) rfl rfl))
  rw [e, h]; rfl
noncomputable def c_sTurnsOf : List A → ACall
  | [.v (.string a0)] => ⟨(Int × (List Int) × Int), s_sTurnsOf a0, fun r => .tup [.v (.int .i64 r.1), .lst (.one (.i .i64)) r.2.1, .v (.int .i64 r.2.2)]⟩
  | _ => ACall.fail
theorem f_sTurnsOf_sound : Sound Tryd.prog 29 c_sTurnsOf := by
  refine sound_good f_sTurnsOf_ctx f_sTurnsOf_LV 1 Tryd.func29 (c := f_sTurnsOf_c) (by kernel_rfl) (rv := f_sTurnsOf_rv) (by kernel_rfl) (by kernel_rfl) (by kernel_rfl) (by kernel_rfl) fun rs => ?_
  unfold c_sTurnsOf
  split
  · rename_i a0; intro v h; exact ⟨rfl, l_sTurnsOf v, rfl, (f_sTurnsOf_top a0 _).trans (s_sTurnsOf_ok a0 v h)⟩
  · intro v h; cases h

/-! ### function 87: loop.example/g01322/impl.isWidth$1 -/
noncomputable def f_iisWidth_1_c : Code := match Tryd.f87.body with | some c => c | none => .skip
noncomputable def f_iisWidth_1_X : Ctx := ⟨TT, phiOf [(54, c_iwithin)], noPsi, noXi⟩
def f_iisWidth_1_LV : List (Nat × Keep) := []
def f_iisWidth_1_rv : List ResultVar := [.tmp 2]
noncomputable def f_iisWidth_1_L (r : List A) : Nat → AS → Option (List A) := L f_iisWidth_1_X (cnOf f_iisWidth_1_LV) f_iisWidth_1_c (K0 TT f_iisWidth_1_rv) r
theorem f_iisWidth_1_ctx : CtxOK Tryd.prog f_iisWidth_1_X := ctx_of tab mix ⟨⟨Tryd.call54, f_iwithin_sound⟩, trivial⟩
noncomputable def s_iisWidth_1 (a0 : Int) : Bool := (!(s_iwithin a0 1 200))
theorem f_iisWidth_1_top (a0 : Int) (r : List A) : ev f_iisWidth_1_X (lpc (cnOf f_iisWidth_1_LV) (f_iisWidth_1_L r)) f_iisWidth_1_c (K0 TT f_iisWidth_1_rv) (enter [.v (.int .i64 a0)]) = (some [.v (.bool (!(s_iwithin a0 1 200)))]) := by kernel_rfl
noncomputable def l_iisWidth_1 (r : Bool) : List A := [.v (.bool r)]
theorem s_iisWidth_1_ok (a0 : Int) : (some [.v (.bool (!(s_iwithin a0 1 200)))]) = some (l_iisWidth_1 (s_iisWidth_1 a0)) := by
  unfold s_iisWidth_1
  exact rfl
noncomputable def c_iisWidth_1 : List A → ACall
  | [.v (.int .i64 a0)] => ⟨Bool, some (s_iisWidth_1 a0), fun r => .one (.v (.bool r))⟩
  | _ => ACall.fail
theorem f_iisWidth_1_sound : Sound Tryd.prog 87 c_iisWidth_1 := by
  refine sound_good f_iisWidth_1_ctx f_iisWidth_1_LV 1 Tryd.func87 (c := f_iisWidth_1_c) (by kernel_rfl) (rv := f_iisWidth_1_rv) (by kernel_rfl) (by kernel_rfl) (by kernel_rfl) (by kernel_rfl) fun rs => ?_
  unfold c_iisWidth_1
  split
  · rename_i a0; intro v h; cases h; exact ⟨rfl, l_iisWidth_1 (s_iisWidth_1 a0), rfl, (f_iisWidth_1_top a0 _).trans (s_iisWidth_1_ok a0)⟩
  · intro v h; cases h

/-! ### function 110: slices.IndexFunc[[]int64,int64] -/
noncomputable def f_gIndexFunc_int64_a_c : Code := match Tryd.f110.body with | some c => c | none => .skip
noncomputable def f_gIndexFunc_int64_a_X : Ctx := ⟨TT, phiOf [(87, c_iisWidth_1)], noPsi, noXi⟩
def f_gIndexFunc_int64_a_LV : List (Nat × Keep) := [(2, ([0, 1, 7, 8], [], []))]
def f_gIndexFunc_int64_a_rv : List ResultVar := [.tmp 4]
noncomputable def f_gIndexFunc_int64_a_L (r : List A) : Nat → AS → Option (List A) := L f_gIndexFunc_int64_a_X (cnOf f_gIndexFunc_int64_a_LV) f_gIndexFunc_int64_a_c (K0 TT f_gIndexFunc_int64_a_rv) r
theorem f_gIndexFunc_int64_a_ctx : CtxOK Tryd.prog f_gIndexFunc_int64_a_X := ctx_of tab mix ⟨⟨Tryd.call87, f_iisWidth_1_sound⟩, trivial⟩
noncomputable def f_gIndexFunc_int64_a_s2 (x0 : Int) (x1 : Int) (x2 : (List Int)) : AS := ⟨[(0, .a (.sl 0)), (1, .a (.clo 87 [])), (7, .a (.v (.int .i64 x0))), (8, .a (.v (.int .i64 x1)))], [(0, some ⟨false, .arr (.one (.i .i64)) x2⟩)], 1⟩
noncomputable def l_gIndexFunc_int64_a (r : Int) : List A := [.v (.int .i64 r)]
theorem f_gIndexFunc_int64_a_step2 (x0 : Int) (x1 : Int) (x2 : (List Int)) (r : List A) (h : (cond (decide (x1 < x0)) (cond (inB x1 (List.length x2)) (cond (s_iisWidth_1 (List.getD x2 (Int.toNat x1) 0)) (some [.v (.int .i64 x1)]) (f_gIndexFunc_int64_a_L r 2 (f_gIndexFunc_int64_a_s2 x0 (IntKind.wrap .i64 (x1 + 1)) x2))) none) (some [.v (.int .i64 (-1))])) = some r) : f_gIndexFunc_int64_a_L r 2 (f_gIndexFunc_int64_a_s2 x0 x1 x2) = some r :=
  step_of' h (by kernel_rfl)
noncomputable def f_gIndexFunc_int64_a_n2 (x0 : Int) (x1 : Int) (x2 : (List Int)) : Option ((Int × Int × (List Int)) ⊕ Int) := (cond (decide (x1 < x0)) (cond (inB x1 (List.length x2)) (cond (s_iisWidth_1 (List.getD x2 (Int.toNat x1) 0)) (some (Sum.inr x1)) (some (Sum.inl (x0, (IntKind.wrap .i64 (x1 + 1)), x2)))) none) (some (Sum.inr (-1))))
noncomputable def f_gIndexFunc_int64_a_run2 (x : (Int × Int × (List Int))) : Option Int := iter (fun x => f_gIndexFunc_int64_a_n2 x.1 x.2.1 x.2.2) FU x
noncomputable def f_gIndexFunc_int64_a_G2 (r : List A) (x : (Int × Int × (List Int))) : Prop := f_gIndexFunc_int64_a_L r 2 (f_gIndexFunc_int64_a_s2 x.1 x.2.1 x.2.2) = some r
noncomputable def f_gIndexFunc_int64_a_S2 (r : List A) : Int → Prop := fun v => r = l_gIndexFunc_int64_a v
theorem f_gIndexFunc_int64_a_go2 (r : List A) : ∀ x, sem (f_gIndexFunc_int64_a_S2 r) (f_gIndexFunc_int64_a_run2 x) → f_gIndexFunc_int64_a_G2 r x :=
  fun x => iter_sound (step := fun x => f_gIndexFunc_int64_a_n2 x.1 x.2.1 x.2.2) (fun x h => by
    unfold f_gIndexFunc_int64_a_n2 at h
    exact f_gIndexFunc_int64_a_step2 x.1 x.2.1 x.2.2 r ((sem_cond h (fun h => (sem_cond h (fun h => (sem_cond h (fun h => sem_got h fun q => some_eq q) (fun h => sem_got h fun q => q))) (fun h => sem_none h))) (fun h => sem_got h fun q => some_eq q)))) FU x
noncomputable def s_gIndexFunc_int64_a (a0 : (List Int)) : Option Int := (f_gIndexFunc_int64_a_run2 (((List.length a0 : Nat) : Int), 0, a0))
theorem f_gIndexFunc_int64_a_top (a0 : (List Int)) (r : List A) : ev f_gIndexFunc_int64_a_X (lpc (cnOf f_gIndexFunc_int64_a_LV) (f_gIndexFunc_int64_a_L r)) f_gIndexFunc_int64_a_c (K0 TT f_gIndexFunc_int64_a_rv) (enter [.lst (.one (.i .i64)) a0, .clo 87 []]) = (f_gIndexFunc_int64_a_L r 2 (f_gIndexFunc_int64_a_s2 ((List.length a0 : Nat) : Int) 0 a0)) := by kernel_rfl
theorem s_gIndexFunc_int64_a_ok (a0 : (List Int)) (v : Int) (h : s_gIndexFunc_int64_a a0 = some v) : (f_gIndexFunc_int64_a_L (l_gIndexFunc_int64_a v) 2 (f_gIndexFunc_int64_a_s2 ((List.length a0 : Nat) : Int) 0 a0)) = some (l_gIndexFunc_int64_a v) := by
  unfold s_gIndexFunc_int64_a at h
  have go : ∀ r, sem (fun v => r = l_gIndexFunc_int64_a v) ((f_gIndexFunc_int64_a_run2 (((List.length a0 : Nat) : Int), 0, a0))) → (f_gIndexFunc_int64_a_L r 2 (f_gIndexFunc_int64_a_s2 ((List.length a0 : Nat) : Int) 0 a0)) = some r := fun r h => f_gIndexFunc_int64_a_go2 r _ h
  exact go (l_gIndexFunc_int64_a v) ⟨v, h, rfl⟩
noncomputable def c_gIndexFunc_int64_a : List A → ACall
  | [.lst (.one (.i .i64)) a0, .clo 87 []] => ⟨Int, s_gIndexFunc_int64_a a0, fun r => .one (.v (.int .i64 r))⟩
  | _ => ACall.fail
theorem f_gIndexFunc_int64_a_sound : Sound Tryd.prog 110 c_gIndexFunc_int64_a := by
  refine sound_good f_gIndexFunc_int64_a_ctx f_gIndexFunc_int64_a_LV 2 Tryd.func110 (c := f_gIndexFunc_int64_a_c) (by kernel_rfl) (rv := f_gIndexFunc_int64_a_rv) (by kernel_rfl) (by kernel_rfl) (by kernel_rfl) (by kernel_rfl) fun rs => ?_
  unfold c_gIndexFunc_int64_a
  split
  · rename_i a0; intro v h; exact ⟨rfl, l_gIndexFunc_int64_a v, rfl, (f_gIndexFunc_int64_a_top a0 _).trans (s_gIndexFunc_int64_a_ok a0 v h)⟩
  · intro v h; cases h
def m_gIndexFunc_int64_a : List A → Bool
  | [_, .clo 87 _] => true
  | _ => false

/-! ### function 86: slices.ContainsFunc[[]int64,int64] -/
noncomputable def f_gContainsFunc_int64_a_c : Code := match Tryd.f86.body with | some c => c | none => .skip
noncomputable def f_gContainsFunc_int64_a_X : Ctx := ⟨TT, phiOf [(110, c_gIndexFunc_int64_a)], noPsi, noXi⟩
def f_gContainsFunc_int64_a_LV : List (Nat × Keep) := []
def f_gContainsFunc_int64_a_rv : List ResultVar := [.tmp 4]
noncomputable def f_gContainsFunc_int64_a_L (r : List A) : Nat → AS → Option (List A) := L f_gContainsFunc_int64_a_X (cnOf f_gContainsFunc_int64_a_LV) f_gContainsFunc_int64_a_c (K0 TT f_gContainsFunc_int64_a_rv) r
theorem f_gContainsFunc_int64_a_ctx : CtxOK Tryd.prog f_gContainsFunc_int64_a_X := ctx_of tab mix ⟨⟨Tryd.call110, f_gIndexFunc_int64_a_sound⟩, trivial⟩
noncomputable def s_gContainsFunc_int64_a (a0 : (List Int)) : Option Bool := (Option.bind (s_gIndexFunc_int64_a a0) fun r1 => (some (decide (r1 ≥ 0))))
theorem f_gContainsFunc_int64_a_top (a0 : (List Int)) (r : List A) : ev f_gContainsFunc_int64_a_X (lpc (cnOf f_gContainsFunc_int64_a_LV) (f_gContainsFunc_int64_a_L r)) f_gContainsFunc_int64_a_c (K0 TT f_gContainsFunc_int64_a_rv) (enter [.lst (.one (.i .i64)) a0, .clo 87 []]) = (Option.bind (s_gIndexFunc_int64_a a0) fun r1 => (some [.v (.bool (decide (r1 ≥ 0)))])) := by kernel_rfl
noncomputable def l_gContainsFunc_int64_a (r : Bool) : List A := [.v (.bool r)]
theorem s_gContainsFunc_int64_a_ok (a0 : (List Int)) (v : Bool) (h : s_gContainsFunc_int64_a a0 = some v) : (Option.bind (s_gIndexFunc_int64_a a0) fun r1 => (some [.v (.bool (decide (r1 ≥ 0)))])) = some (l_gContainsFunc_int64_a v) := by
  have e : (Option.bind (s_gIndexFunc_int64_a a0) fun r1 => (some [.v (.bool (decide (r1 ≥ 0)))])) = Option.map l_gContainsFunc_int64_a (s_gContainsFunc_int64_a a0) := by
    unfold s_gContainsFunc_int64_a
    exact (bind_app fun _ => rfl)
  rw [e, h]; rfl
noncomputable def c_gContainsFunc_int64_a : List A → ACall
  | [.lst (.one (.i .i64)) a0, .clo 87 []] => ⟨Bool, s_gContainsFunc_int64_a a0, fun r => .one (.v (.bool r))⟩
  | _ => ACall.fail
theorem f_gContainsFunc_int64_a_sound : Sound Tryd.prog 86 c_gContainsFunc_int64_a := by
  refine sound_good f_gContainsFunc_int64_a_ctx f_gContainsFunc_int64_a_LV 2 Tryd.func86 (c := f_gContainsFunc_int64_a_c) (by kernel_rfl) (rv := f_gContainsFunc_int64_a_rv) (by kernel_rfl) (by kernel_rfl) (by kernel_rfl) (by kernel_rfl) fun rs => ?_
  unfold c_gContainsFunc_int64_a
  split
  · rename_i a0; intro v h; exact ⟨rfl, l_gContainsFunc_int64_a v, rfl, (f_gContainsFunc_int64_a_top a0 _).trans (s_gContainsFunc_int64_a_ok a0 v h)⟩
  · intro v h; cases h
def m_gContainsFunc_int64_a : List A → Bool
  | [_, .clo 87 _] => true
  | _ => false

/-! ### function 47: loop.example/g01322/impl.isWidth -/
noncomputable def f_iisWidth_c : Code := match Tryd.f47.body with | some c => c | none => .skip
noncomputable def f_iisWidth_X : Ctx := ⟨TT, phiOf [(86, c_gContainsFunc_int64_a)], noPsi, noXi⟩
def f_iisWidth_LV : List (Nat × Keep) := []
def f_iisWidth_rv : List ResultVar := [.tmp 2]
noncomputable def f_iisWidth_L (r : List A) : Nat → AS → Option (List A) := L f_iisWidth_X (cnOf f_iisWidth_LV) f_iisWidth_c (K0 TT f_iisWidth_rv) r
theorem f_iisWidth_ctx : CtxOK Tryd.prog f_iisWidth_X := ctx_of tab mix ⟨⟨Tryd.call86, f_gContainsFunc_int64_a_sound⟩, trivial⟩
noncomputable def s_iisWidth (a0 : (List Int)) : Option Bool := (Option.bind (s_gContainsFunc_int64_a a0) fun r1 => (some (!r1)))
theorem f_iisWidth_top (a0 : (List Int)) (r : List A) : ev f_iisWidth_X (lpc (cnOf f_iisWidth_LV) (f_iisWidth_L r)) f_iisWidth_c (K0 TT f_iisWidth_rv) (enter [.lst (.one (.i .i64)) a0]) = (Option.bind (s_gContainsFunc_int64_a a0) fun r1 => (some [.v (.bool (!r1))])) := by kernel_rfl
noncomputable def l_iisWidth (r : Bool) : List A := [.v (.bool r)]
theorem s_iisWidth_ok (a0 : (List Int)) (v : Bool) (h : s_iisWidth a0 = some v) : (Option.bind (s_gContainsFunc_int64_a a0) fun r1 => (some [.v (.bool (!r1))])) = some (l_iisWidth v) := by
  have e : (Option.bind (s_gContainsFunc_int64_a a0) fun r1 => (some [.v (.bool (!r1))])) = Option.map l_iisWidth (s_iisWidth a0) := by
    unfold s_iisWidth
    exact (bind_app fun _ => rfl)
  rw [e, h]; rfl
noncomputable def c_iisWidth : List A → ACall
  | [.lst (.one (.i .i64)) a0] => ⟨Bool, s_iisWidth a0, fun r => .one (.v (.bool r))⟩
  | _ => ACall.fail
theorem f_iisWidth_sound : Sound Tryd.prog 47 c_iisWidth := by
  refine sound_good f_iisWidth_ctx f_iisWidth_LV 1 Tryd.func47 (c := f_iisWidth_c) (by kernel_rfl) (rv := f_iisWidth_rv) (by kernel_rfl) (by kernel_rfl) (by kernel_rfl) (by kernel_rfl) fun rs => ?_
  unfold c_iisWidth
  split
  · rename_i a0; intro v h; exact ⟨rfl, l_iisWidth v, rfl, (f_iisWidth_top a0 _).trans (s_iisWidth_ok a0 v h)⟩
  · intro v h; cases h

/-! ### function 74: loop.example/g01322/impl.even -/
noncomputable def f_ieven_c : Code := match Tryd.f74.body with | some c => c | none => .skip
noncomputable def f_ieven_X : Ctx := ⟨TT, phiOf [], noPsi, noXi⟩
def f_ieven_LV : List (Nat × Keep) := [(5, ([0, 1, 6, 19, 20], [], []))]
def f_ieven_rv : List ResultVar := [.tmp 4, .tmp 5]
noncomputable def f_ieven_L (r : List A) : Nat → AS → Option (List A) := L f_ieven_X (cnOf f_ieven_LV) f_ieven_c (K0 TT f_ieven_rv) r
theorem f_ieven_ctx : CtxOK Tryd.prog f_ieven_X := ctx_of tab mix trivial
noncomputable def f_ieven_s5 (x0 : Int) (x1 : Int) (x2 : Int) (x3 : Int) (x4 : (List Int)) : AS := ⟨[(0, .a (.v (.int .i64 x0))), (1, .a (.v (.int .i64 x1))), (6, .a (.sl 0)), (19, .a (.v (.int .i64 x2))), (20, .a (.v (.int .i64 x3)))], [(0, some ⟨true, .arr (.one (.i .i16)) x4⟩)], 1⟩
noncomputable def l_ieven (r : ((List Int) × Bool)) : List A := [.lst (.one (.i .i16)) r.1, .v (.bool r.2)]
theorem f_ieven_step5 (x0 : Int) (x1 : Int) (x2 : Int) (x3 : Int) (x4 : (List Int)) (r : List A) (h : (cond (decide (x3 < x2)) (cond (decide (x1 = 0)) none (cond (decide (x1 = 0)) none (cond (decide (x3 < (Int.tmod x0 x1))) (cond (fits ((List.length (x4 : List Int) + List.length ([(IntKind.wrap .i16 (IntKind.wrap .i64 ((IntKind.wrap .i64 (Int.tdiv x0 x1)) + 1)))] : List Int)) * 2)) (f_ieven_L r 5 (f_ieven_s5 x0 x1 x2 (IntKind.wrap .i64 (x3 + 1)) (x4 ++ [(IntKind.wrap .i16 (IntKind.wrap .i64 ((IntKind.wrap .i64 (Int.tdiv x0 x1)) + 1)))]))) none) (cond (fits ((List.length (x4 : List Int) + List.length ([(IntKind.wrap .i16 (IntKind.wrap .i64 (Int.tdiv x0 x1)))] : List Int)) * 2)) (f_ieven_L r 5 (f_ieven_s5 x0 x1 x2 (IntKind.wrap .i64 (x3 + 1)) (x4 ++ [(IntKind.wrap .i16 (IntKind.wrap .i64 (Int.tdiv x0 x1)))]))) none)))) (some [.lst (.one (.i .i16)) x4, .v (.bool true)])) = some r) : f_ieven_L r 5 (f_ieven_s5 x0 x1 x2 x3 x4) = some r :=
  step_of' h (by kernel_rfl)
noncomputable def f_ieven_n5 (x0 : Int) (x1 : Int) (x2 : Int) (x3 : Int) (x4 : (List Int)) : Option ((Int × Int × Int × Int × (List Int)) ⊕ ((List Int) × Bool)) := (cond (decide (x3 < x2)) (cond (decide (x1 = 0)) none (cond (decide (x1 = 0)) none (cond (decide (x3 < (Int.tmod x0 x1))) (cond (fits ((List.length (x4 : List Int) + List.length ([(IntKind.wrap .i16 (IntKind.wrap .i64 ((IntKind.wrap .i64 (Int.tdiv x0 x1)) + 1)))] : List Int)) * 2)) (some (Sum.inl (x0, x1, x2, (IntKind.wrap .i64 (x3 + 1)), (x4 ++ [(IntKind.wrap .i16 (IntKind.wrap .i64 ((IntKind.wrap .i64 (Int.tdiv x0 x1)) + 1)))])))) none) (cond (fits ((List.length (x4 : List Int) + List.length ([(IntKind.wrap .i16 (IntKind.wrap .i64 (Int.tdiv x0 x1)))] : List Int)) * 2)) (some (Sum.inl (x0, x1, x2, (IntKind.wrap .i64 (x3 + 1)), (x4 ++ [(IntKind.wrap .i16 (IntKind.wrap .i64 (Int.tdiv x0 x1)))])))) none)))) (some (Sum.inr (x4, true))))
noncomputable def f_ieven_run5 (x : (Int × Int × Int × Int × (List Int))) : Option ((List Int) × Bool) := iter (fun x => f_ieven_n5 x.1 x.2.1 x.2.2.1 x.2.2.2.1 x.2.2.2.2) FU x
noncomputable def f_ieven_G5 (r : List A) (x : (Int × Int × Int × Int × (List Int))) : Prop := f_ieven_L r 5 (f_ieven_s5 x.1 x.2.1 x.2.2.1 x.2.2.2.1 x.2.2.2.2) = some r
noncomputable def f_ieven_S5 (r : List A) : ((List Int) × Bool) → Prop := fun v => r = l_ieven v
theorem f_ieven_go5 (r : List A) : ∀ x, sem (f_ieven_S5 r) (f_ieven_run5 x) → f_ieven_G5 r x :=
  fun x => iter_sound (step := fun x => f_ieven_n5 x.1 x.2.1 x.2.2.1 x.2.2.2.1 x.2.2.2.2) (fun x h => by
    unfold f_ieven_n5 at h
    exact f_ieven_step5 x.1 x.2.1 x.2.2.1 x.2.2.2.1 x.2.2.2.2 r ((sem_cond h (fun h => (sem_cond h (fun h => sem_none h) (fun h => (sem_cond h (fun h => sem_none h) (fun h => (sem_cond h (fun h => (sem_cond h (fun h => sem_got h fun q => q) (fun h => sem_none h))) (fun h => (sem_cond h (fun h => sem_got h fun q => q) (fun h => sem_none h))))))))) (fun h => sem_got h fun q => some_eq q)))) FU x
noncomputable def s_ieven (a0 : Int) (a1 : Int) : Option ((List Int) × Bool) := (cond (decide (a0 < a1)) (some ([], false)) (cond (decide (a0 > (IntKind.wrap .i64 (a1 * 200)))) (some ([], false)) (f_ieven_run5 (a0, a1, a1, 0, []))))
theorem f_ieven_top (a0 : Int) (a1 : Int) (r : List A) : ev f_ieven_X (lpc (cnOf f_ieven_LV) (f_ieven_L r)) f_ieven_c (K0 TT f_ieven_rv) (enter [.v (.int .i64 a0), .v (.int .i64 a1)]) = (cond (decide (a0 < a1)) (some [.lst (.one (.i .i16)) [], .v (.bool false)]) (cond (decide (a0 > (IntKind.wrap .i64 (a1 * 200)))) (some [.lst (.one (.i .i16)) [], .v (.bool false)]) (f_ieven_L r 5 (f_ieven_s5 a0 a1 a1 0 [])))) := by kernel_rfl
theorem s_ieven_ok (a0 : Int) (a1 : Int) (v : ((List Int) × Bool)) (h : s_ieven a0 a1 = some v) : (cond (decide (a0 < a1)) (some [.lst (.one (.i .i16)) [], .v (.bool false)]) (cond (decide (a0 > (IntKind.wrap .i64 (a1 * 200)))) (some [.lst (.one (.i .i16)) [], .v (.bool false)]) (f_ieven_L (l_ieven v) 5 (f_ieven_s5 a0 a1 a1 0 [])))) = some (l_ieven v) := by
  unfold s_ieven at h
  have go : ∀ r, sem (fun v => r = l_ieven v) ((cond (decide (a0 < a1)) (some ([], false)) (cond (decide (a0 > (IntKind.wrap .i64 (a1 * 200)))) (some ([], false)) (f_ieven_run5 (a0, a1, a1, 0, []))))) → (cond (decide (a0 < a1)) (some [.lst (.one (.i .i16)) [], .v (.bool false)]) (cond (decide (a0 > (IntKind.wrap .i64 (a1 * 200)))) (some [.lst (.one (.i .i16)) [], .v (.bool false)]) (f_ieven_L r 5 (f_ieven_s5 a0 a1 a1 0 [])))) = some r := fun r h => (sem_cond h (fun h => sem_got h fun q => some_eq q) (fun h => (sem_cond h (fun h => sem_got h fun q => some_eq q) (fun h => f_ieven_go5 r _ h))))
  exact go (l_ieven v) ⟨v, h, rfl⟩
noncomputable def c_ieven : List A → ACall
  | [.v (.int .i64 a0), .v (.int .i64 a1)] => ⟨((List Int) × Bool), s_ieven a0 a1, fun r => .tup [.lst (.one (.i .i16)) r.1, .v (.bool r.2)]⟩
  | _ => ACall.fail
theorem f_ieven_sound : Sound Tryd.prog 74 c_ieven := by
  refine sound_good f_ieven_ctx f_ieven_LV 2 Tryd.func74 (c := f_ieven_c) (by kernel_rfl) (rv := f_ieven_rv) (by kernel_rfl) (by kernel_rfl) (by kernel_rfl) (by kernel_rfl) fun rs => ?_
  unfold c_ieven
  split
  · rename_i a0 a1; intro v h; exact ⟨rfl, l_ieven v, rfl, (f_ieven_top a0 a1 _).trans (s_ieven_ok a0 a1 v h)⟩
  · intro v h; cases h

/-! ### function 94: (loop.example/g01322/impl.Row).isBetween$1 -/
noncomputable def f_iRow_isBetween_1_c : Code := match Tryd.f94.body with | some c => c | none => .skip
noncomputable def f_iRow_isBetween_1_X : Ctx := ⟨TT, phiOf [(54, c_iwithin)], noPsi, noXi⟩
def f_iRow_isBetween_1_LV : List (Nat × Keep) := []
def f_iRow_isBetween_1_rv : List ResultVar := [.tmp 4]
noncomputable def f_iRow_isBetween_1_L (r : List A) : Nat → AS → Option (List A) := L f_iRow_isBetween_1_X (cnOf f_iRow_isBetween_1_LV) f_iRow_isBetween_1_c (K0 TT f_iRow_isBetween_1_rv) r
theorem f_iRow_isBetween_1_ctx : CtxOK Tryd.prog f_iRow_isBetween_1_X := ctx_of tab mix ⟨⟨Tryd.call54, f_iwithin_sound⟩, trivial⟩
noncomputable def s_iRow_isBetween_1 (a0 : Int) (a1 : Int) (a2 : Int) : Bool := (!(s_iwithin (IntKind.wrap .i64 a0) a1 a2))
theorem f_iRow_isBetween_1_top (a0 : Int) (a1 : Int) (a2 : Int) (r : List A) : ev f_iRow_isBetween_1_X (lpc (cnOf f_iRow_isBetween_1_LV) (f_iRow_isBetween_1_L r)) f_iRow_isBetween_1_c (K0 TT f_iRow_isBetween_1_rv) (enter [.v (.int .i16 a0), .ref (.v (.int .i64 a1)), .ref (.v (.int .i64 a2))]) = (some [.v (.bool (!(s_iwithin (IntKind.wrap .i64 a0) a1 a2)))]) := by kernel_rfl
noncomputable def l_iRow_isBetween_1 (r : Bool) : List A := [.v (.bool r)]
theorem s_iRow_isBetween_1_ok (a0 : Int) (a1 : Int) (a2 : Int) : (some [.v (.bool (!(s_iwithin (IntKind.wrap .i64 a0) a1 a2)))]) = some (l_iRow_isBetween_1 (s_iRow_isBetween_1 a0 a1 a2)) := by
  unfold s_iRow_isBetween_1
  exact rfl
noncomputable def c_iRow_isBetween_1 : List A → ACall
  | [.v (.int .i16 a0), .ref (.v (.int .i64 a1)), .ref (.v (.int .i64 a2))] => ⟨Bool, some (s_iRow_isBetween_1 a0 a1 a2), fun r => .one (.v (.bool r))⟩
  | _ => ACall.fail
theorem f_iRow_isBetween_1_sound : Sound Tryd.prog 94 c_iRow_isBetween_1 := by
  refine sound_good f_iRow_isBetween_1_ctx f_iRow_isBetween_1_LV 3 Tryd.func94 (c := f_iRow_isBetween_1_c) (by kernel_rfl) (rv := f_iRow_isBetween_1_rv) (by kernel_rfl) (by kernel_rfl) (by kernel_rfl) (by kernel_rfl) fun rs => ?_
  unfold c_iRow_isBetween_1
  split
  · rename_i a0 a1 a2; intro v h; cases h; exact ⟨rfl, l_iRow_isBetween_1 (s_iRow_isBetween_1 a0 a1 a2), rfl, (f_iRow_isBetween_1_top a0 a1 a2 _).trans (s_iRow_isBetween_1_ok a0 a1 a2)⟩
  · intro v h; cases h

/-! ### function 109: slices.IndexFunc[loop.example/g01322/impl.Row,int16] -/
noncomputable def f_gIndexFunc_int16_a_c : Code := match Tryd.f109.body with | some c => c | none => .skip
noncomputable def f_gIndexFunc_int16_a_X : Ctx := ⟨TT, phiOf [(94, c_iRow_isBetween_1)], noPsi, noXi⟩
def f_gIndexFunc_int16_a_LV : List (Nat × Keep) := [(2, ([0, 1, 7, 8], [], []))]
def f_gIndexFunc_int16_a_rv : List ResultVar := [.tmp 4]
noncomputable def f_gIndexFunc_int16_a_L (r : List A) : Nat → AS → Option (List A) := L f_gIndexFunc_int16_a_X (cnOf f_gIndexFunc_int16_a_LV) f_gIndexFunc_int16_a_c (K0 TT f_gIndexFunc_int16_a_rv) r
theorem f_gIndexFunc_int16_a_ctx : CtxOK Tryd.prog f_gIndexFunc_int16_a_X := ctx_of tab mix ⟨⟨Tryd.call94, f_iRow_isBetween_1_sound⟩, trivial⟩
noncomputable def f_gIndexFunc_int16_a_s2 (x0 : Int) (x1 : Int) (x2 : (List Int)) (x3 : Int) (x4 : Int) : AS := ⟨[(0, .a (.sl 0)), (1, .a (.clo 94 [.ptr 1 [] (0), .ptr 2 [] (0)])), (7, .a (.v (.int .i64 x0))), (8, .a (.v (.int .i64 x1)))], [(0, some ⟨false, .arr (.one (.i .i16)) x2⟩), (1, some ⟨false, .box (.v (.int .i64 x3))⟩), (2, some ⟨false, .box (.v (.int .i64 x4))⟩)], 3⟩
noncomputable def l_gIndexFunc_int16_a (r : Int) : List A := [.v (.int .i64 r)]
theorem f_gIndexFunc_int16_a_step2 (x0 : Int) (x1 : Int) (x2 : (List Int)) (x3 : Int) (x4 : Int) (r : List A) (h : (cond (decide (x1 < x0)) (cond (inB x1 (List.length x2)) (cond (s_iRow_isBetween_1 (List.getD x2 (Int.toNat x1) 0) x3 x4) (some [.v (.int .i64 x1)]) (f_gIndexFunc_int16_a_L r 2 (f_gIndexFunc_int16_a_s2 x0 (IntKind.wrap .i64 (x1 + 1)) x2 x3 x4))) none) (some [.v (.int .i64 (-1))])) = some r) : f_gIndexFunc_int16_a_L r 2 (f_gIndexFunc_int16_a_s2 x0 x1 x2 x3 x4) = some r :=
  step_of' h (by kernel_rfl)
noncomputable def f_gIndexFunc_int16_a_n2 (x0 : Int) (x1 : Int) (x2 : (List Int)) (x3 : Int) (x4 : Int) : Option ((Int × Int × (List Int) × Int × Int) ⊕ Int) := (cond (decide (x1 < x0)) (cond (inB x1 (List.length x2)) (cond (s_iRow_isBetween_1 (List.getD x2 (Int.toNat x1) 0) x3 x4) (some (Sum.inr x1)) (some (Sum.inl (x0, (IntKind.wrap .i64 (x1 + 1)), x2, x3, x4)))) none) (some (Sum.inr (-1))))
noncomputable def f_gIndexFunc_int16_a_run2 (x : (Int × Int × (List Int) × Int × Int)) : Option Int := iter (fun x => f_gIndexFunc_int16_a_n2 x.1 x.2.1 x.2.2.1 x.2.2.2.1 x.2.2.2.2) FU x
noncomputable def f_gIndexFunc_int16_a_G2 (r : List A) (x : (Int × Int × (List Int) × Int × Int)) : Prop := f_gIndexFunc_int16_a_L r 2 (f_gIndexFunc_int16_a_s2 x.1 x.2.1 x.2.2.1 x.2.2.2.1 x.2.2.2.2) = some r
noncomputable def f_gIndexFunc_int16_a_S2 (r : List A) : Int → Prop := fun v => r = l_gIndexFunc_int16_a v
theorem f_gIndexFunc_int16_a_go2 (r : List A) : ∀ x, sem (f_gIndexFunc_int16_a_S2 r) (f_gIndexFunc_int16_a_run2 x) → f_gIndexFunc_int16_a_G2 r x :=
  fun x => iter_sound (step := fun x => f_gIndexFunc_int16_a_n2 x.1 x.2.1 x.2.2.1 x.2.2.2.1 x.2.2.2.2) (fun x h => by
    unfold f_gIndexFunc_int16_a_n2 at h
    exact f_gIndexFunc_int16_a_step2 x.1 x.2.1 x.2.2.1 x.2.2.2.1 x.2.2.2.2 r ((sem_cond h (fun h => (sem_cond h (fun h => (sem_cond h (fun h => sem_got h fun q => some_eq q) (fun h => sem_got h fun q => q))) (fun h => sem_none h))) (fun h => sem_got h fun q => some_eq q)))) FU x
noncomputable def s_gIndexFunc_int16_a (a0 : (List Int)) (a1 : Int) (a2 : Int) : Option Int := (f_gIndexFunc_int16_a_run2 (((List.length a0 : Nat) : Int), 0, a0, a1, a2))
theorem f_gIndexFunc_int16_a_top (a0 : (List Int)) (a1 : Int) (a2 : Int) (r : List A) : ev f_gIndexFunc_int16_a_X (lpc (cnOf f_gIndexFunc_int16_a_LV) (f_gIndexFunc_int16_a_L r)) f_gIndexFunc_int16_a_c (K0 TT f_gIndexFunc_int16_a_rv) (enter [.lst (.one (.i .i16)) a0, .clo 94 [.ref (.v (.int .i64 a1)), .ref (.v (.int .i64 a2))]]) = (f_gIndexFunc_int16_a_L r 2 (f_gIndexFunc_int16_a_s2 ((List.length a0 : Nat) : Int) 0 a0 a1 a2)) := by kernel_rfl
theorem s_gIndexFunc_int16_a_ok (a0 : (List Int)) (a1 : Int) (a2 : Int) (v : Int) (h : s_gIndexFunc_int16_a a0 a1 a2 = some v) : (f_gIndexFunc_int16_a_L (l_gIndexFunc_int16_a v) 2 (f_gIndexFunc_int16_a_s2 ((List.length a0 : Nat) : Int) 0 a0 a1 a2)) = some (l_gIndexFunc_int16_a v) := by
  unfold s_gIndexFunc_int16_a at h
  have go : ∀ r, sem (fun v => r = l_gIndexFunc_int16_a v) ((f_gIndexFunc_int16_a_run2 (((List.length a0 : Nat) : Int), 0, a0, a1, a2))) → (f_gIndexFunc_int16_a_L r 2 (f_gIndexFunc_int16_a_s2 ((List.length a0 : Nat) : Int) 0 a0 a1 a2)) = some r := fun r h => f_gIndexFunc_int16_a_go2 r _ h
  exact go (l_gIndexFunc_int16_a v) ⟨v, h, rfl⟩
noncomputable def c_gIndexFunc_int16_a : List A → ACall
  | [.lst (.one (.i .i16)) a0, .clo 94 [.ref (.v (.int .i64 a1)), .ref (.v (.int .i64 a2))]] => ⟨Int, s_gIndexFunc_int16_a a0 a1 a2, fun r => .one (.v (.int .i64 r))⟩
  | _ => ACall.fail
theorem f_gIndexFunc_int16_a_sound : Sound Tryd.prog 109 c_gIndexFunc_int16_a := by
  refine sound_good f_gIndexFunc_int16_a_ctx f_gIndexFunc_int16_a_LV 2 Tryd.func109 (c := f_gIndexFunc_int16_a_c) (by kernel_rfl) (rv := f_gIndexFunc_int16_a_rv) (by kernel_rfl) (by kernel_rfl) (by kernel_rfl) (by kernel_rfl) fun rs => ?_
  unfold c_gIndexFunc_int16_a
  split
  · rename_i a0 a1 a2; intro v h; exact ⟨rfl, l_gIndexFunc_int16_a v, rfl, (f_gIndexFunc_int16_a_top a0 a1 a2 _).trans (s_gIndexFunc_int16_a_ok a0 a1 a2 v h)⟩
  · intro v h; cases h
def m_gIndexFunc_int16_a : List A → Bool
  | [_, .clo 94 _] => true
  | _ => false

/-! ### function 84: slices.ContainsFunc[loop.example/g01322/impl.Row,int16] -/
noncomputable def f_gContainsFunc_int16_a_c : Code := match Tryd.f84.body with | some c => c | none => .skip
noncomputable def f_gContainsFunc_int16_a_X : Ctx := ⟨TT, phiOf [(109, c_gIndexFunc_int16_a)], noPsi, noXi⟩
def f_gContainsFunc_int16_a_LV : List (Nat × Keep) := []
def f_gContainsFunc_int16_a_rv : List ResultVar := [.tmp 4]
noncomputable def f_gContainsFunc_int16_a_L (r : List A) : Nat → AS → Option (List A) := L f_gContainsFunc_int16_a_X (cnOf f_gContainsFunc_int16_a_LV) f_gContainsFunc_int16_a_c (K0 TT f_gContainsFunc_int16_a_rv) r
theorem f_gContainsFunc_int16_a_ctx : CtxOK Tryd.prog f_gContainsFunc_int16_a_X := ctx_of tab mix ⟨⟨Tryd.call109, f_gIndexFunc_int16_a_sound⟩, trivial⟩
noncomputable def s_gContainsFunc_int16_a (a0 : (List Int)) (a1 : Int) (a2 : Int) : Option Bool := (Option.bind (s_gIndexFunc_int16_a a0 a1 a2) fun r1 => (some (decide (r1 ≥ 0))))
theorem f_gContainsFunc_int16_a_top (a0 : (List Int)) (a1 : Int) (a2 : Int) (r : List A) : ev f_gContainsFunc_int16_a_X (lpc (cnOf f_gContainsFunc_int16_a_LV) (f_gContainsFunc_int16_a_L r)) f_gContainsFunc_int16_a_c (K0 TT f_gContainsFunc_int16_a_rv) (enter [.lst (.one (.i .i16)) a0, .clo 94 [.ref (.v (.int .i64 a1)), .ref (.v (.int .i64 a2))]]) = (Option.bind (s_gIndexFunc_int16_a a0 a1 a2) fun r1 => (some [.v (.bool (decide (r1 ≥ 0)))])) := by kernel_rfl
noncomputable def l_gContainsFunc_int16_a (r : Bool) : List A := [.v (.bool r)]
theorem s_gContainsFunc_int16_a_ok (a0 : (List Int)) (a1 : Int) (a2 : Int) (v : Bool) (h : s_gContainsFunc_int16_a a0 a1 a2 = some v) : (Option.bind (s_gIndexFunc_int16_a a0 a1 a2) fun r1 => (some [.v (.bool (decide (r1 ≥ 0)))])) = some (l_gContainsFunc_int16_a v) := by
  have e : (Option.bind (s_gIndexFunc_int16_a a0 a1 a2) fun r1 => (some [.v (.bool (decide (r1 ≥ 0)))])) = Option.map l_gContainsFunc_int16_a (s_gContainsFunc_int16_a a0 a1 a2) := by
    unfold s_gContainsFunc_int16_a
    exact (bind_app fun _ => rfl)
  rw [e, h]; rfl
noncomputable def c_gContainsFunc_int16_a : List A → ACall
  | [.lst (.one (.i .i16)) a0, .clo 94 [.ref (.v (.int .i64 a1)), .ref (.v (.int .i64 a2))]] => ⟨Bool, s_gContainsFunc_int16_a a0 a1 a2, fun r => .one (.v (.bool r))⟩
  | _ => ACall.fail
theorem f_gContainsFunc_int16_a_sound : Sound Tryd.prog 84 c_gContainsFunc_int16_a := by
  refine sound_good f_gContainsFunc_int16_a_ctx f_gContainsFunc_int16_a_LV 2 Tryd.func84 (c := f_gContainsFunc_int16_a_c) (by kernel_rfl) (rv := f_gContainsFunc_int16_a_rv) (by kernel_rfl) (by kernel_rfl) (by kernel_rfl) (by kernel_rfl) fun rs => ?_
  unfold c_gContainsFunc_int16_a
  split
  · rename_i a0 a1 a2; intro v h; exact ⟨rfl, l_gContainsFunc_int16_a v, rfl, (f_gContainsFunc_int16_a_top a0 a1 a2 _).trans (s_gContainsFunc_int16_a_ok a0 a1 a2 v h)⟩
  · intro v h; cases h
def m_gContainsFunc_int16_a : List A → Bool
  | [_, .clo 94 _] => true
  | _ => false

/-! ### function 75: (loop.example/g01322/impl.Row).isBetween -/
noncomputable def f_iRow_isBetween_c : Code := match Tryd.f75.body with | some c => c | none => .skip
noncomputable def f_iRow_isBetween_X : Ctx := ⟨TT, phiOf [(84, c_gContainsFunc_int16_a)], noPsi, noXi⟩
def f_iRow_isBetween_LV : List (Nat × Keep) := []
def f_iRow_isBetween_rv : List ResultVar := [.tmp 6]
noncomputable def f_iRow_isBetween_L (r : List A) : Nat → AS → Option (List A) := L f_iRow_isBetween_X (cnOf f_iRow_isBetween_LV) f_iRow_isBetween_c (K0 TT f_iRow_isBetween_rv) r
theorem f_iRow_isBetween_ctx : CtxOK Tryd.prog f_iRow_isBetween_X := ctx_of tab mix ⟨⟨Tryd.call84, f_gContainsFunc_int16_a_sound⟩, trivial⟩
noncomputable def s_iRow_isBetween (a0 : (List Int)) (a1 : Int) (a2 : Int) : Option Bool := (Option.bind (s_gContainsFunc_int16_a a0 a1 a2) fun r1 => (some (!r1)))
theorem f_iRow_isBetween_top (a0 : (List Int)) (a1 : Int) (a2 : Int) (r : List A) : ev f_iRow_isBetween_X (lpc (cnOf f_iRow_isBetween_LV) (f_iRow_isBetween_L r)) f_iRow_isBetween_c (K0 TT f_iRow_isBetween_rv) (enter [.lst (.one (.i .i16)) a0, .v (.int .i64 a1), .v (.int .i64 a2)]) = (Option.bind (s_gContainsFunc_int16_a a0 a1 a2) fun r1 => (some [.v (.bool (!r1))])) := by kernel_rfl
noncomputable def l_iRow_isBetween (r : Bool) : List A := [.v (.bool r)]
theorem s_iRow_isBetween_ok (a0 : (List Int)) (a1 : Int) (a2 : Int) (v : Bool) (h : s_iRow_isBetween a0 a1 a2 = some v) : (Option.bind (s_gContainsFunc_int16_a a0 a1 a2) fun r1 => (some [.v (.bool (!r1))])) = some (l_iRow_isBetween v) := by
  have e : (Option.bind (s_gContainsFunc_int16_a a0 a1 a2) fun r1 => (some [.v (.bool (!r1))])) = Option.map l_iRow_isBetween (s_iRow_isBetween a0 a1 a2) := by
    unfold s_iRow_isBetween
    exact (bind_app fun _ => rfl)
  rw [e, h]; rfl
noncomputable def c_iRow_isBetween : List A → ACall
  | [.lst (.one (.i .i16)) a0, .v (.int .i64 a1), .v (.int .i64 a2)] => ⟨Bool, s_iRow_isBetween a0 a1 a2, fun r => .one (.v (.bool r))⟩
  | _ => ACall.fail
theorem f_iRow_isBetween_sound : Sound Tryd.prog 75 c_iRow_isBetween := by
  refine sound_good f_iRow_isBetween_ctx f_iRow_isBetween_LV 3 Tryd.func75 (c := f_iRow_isBetween_c) (by kernel_rfl) (rv := f_iRow_isBetween_rv) (by kernel_rfl) (by kernel_rfl) (by kernel_rfl) (by kernel_rfl) fun rs => ?_
  unfold c_iRow_isBetween
  split
  · rename_i a0 a1 a2; intro v h; exact ⟨rfl, l_iRow_isBetween v, rfl, (f_iRow_isBetween_top a0 a1 a2 _).trans (s_iRow_isBetween_ok a0 a1 a2 v h)⟩
  · intro v h; cases h

/-! ### function 31: loop.example/g01322/impl.StonesAlong -/
noncomputable def f_iStonesAlong_c : Code := match Tryd.f31.body with | some c => c | none => .skip
noncomputable def f_iStonesAlong_X : Ctx := ⟨TT, phiOf [(47, c_iisWidth), (71, c_istraights), (74, c_ieven), (75, c_iRow_isBetween)], noPsi, noXi⟩
def f_iStonesAlong_LV : List (Nat × Keep) := [(10, ([1, 2, 10, 33, 34, 35], [], []))]
def f_iStonesAlong_rv : List ResultVar := [.tmp 6, .tmp 7]
noncomputable def f_iStonesAlong_L (r : List A) : Nat → AS → Option (List A) := L f_iStonesAlong_X (cnOf f_iStonesAlong_LV) f_iStonesAlong_c (K0 TT f_iStonesAlong_rv) r
theorem f_iStonesAlong_ctx : CtxOK Tryd.prog f_iStonesAlong_X := ctx_of tab mix ⟨⟨Tryd.call47, f_iisWidth_sound⟩, ⟨Tryd.call71, f_istraights_sound⟩, ⟨Tryd.call74, f_ieven_sound⟩, ⟨Tryd.call75, f_iRow_isBetween_sound⟩, trivial⟩
noncomputable def f_iStonesAlong_s10 (x0 : Int) (x1 : Int) (x2 : Int) (x3 : Int) (x4 : (List Int)) (x5 : (List Int)) : AS := ⟨[(1, .a (.v (.int .i64 x0))), (2, .a (.v (.int .i64 x1))), (10, .a (.sl 0)), (33, .a (.sl 1)), (34, .a (.v (.int .i64 x2))), (35, .a (.v (.int .i64 x3)))], [(0, some ⟨true, .arr (.one (.i .i16)) x4⟩), (1, some ⟨true, .arr (.one (.i .i64)) x5⟩)], 2⟩
noncomputable def l_iStonesAlong (r : ((List Int) × Int)) : List A := [.lst (.one (.i .i16)) r.1, .v (.int .i64 r.2)]
theorem f_iStonesAlong_step10 (x0 : Int) (x1 : Int) (x2 : Int) (x3 : Int) (x4 : (List Int)) (x5 : (List Int)) (r : List A) (h : (cond (decide (x3 < x2)) (cond (inB x3 (List.length x5)) (cond (decide (x1 = 0)) none (Option.bind (s_ieven (List.getD x5 (Int.toNat x3) 0) (IntKind.wrap .i64 (Int.tdiv (IntKind.wrap .i64 ((IntKind.wrap .i64 ((List.getD x5 (Int.toNat x3) 0) + x1)) - 1)) x1))) fun r3 => (cond (!r3.2) (some [.lst (.one (.i .i16)) [], .v (.int .i64 6)]) (Option.bind (s_iRow_isBetween (r3.1) x0 x1) fun r4 => (cond (!r4) (some [.lst (.one (.i .i16)) [], .v (.int .i64 6)]) (cond (fits ((List.length (x4 : List Int) + List.length (r3.1 : List Int)) * 2)) (f_iStonesAlong_L r 10 (f_iStonesAlong_s10 x0 x1 x2 (IntKind.wrap .i64 (x3 + 1)) (x4 ++ r3.1) x5)) none)))))) none) (cond (decide (((List.length x4 : Nat) : Int) > 60)) (some [.lst (.one (.i .i16)) [], .v (.int .i64 3)]) (some [.lst (.one (.i .i16)) x4, .v (.int .i64 0)]))) = some r) : f_iStonesAlong_L r 10 (f_iStonesAlong_s10 x0 x1 x2 x3 x4 x5) = some r :=
  step_of' h (by kernel_rfl)
noncomputable def f_iStonesAlong_n10 (x0 : Int) (x1 : Int) (x2 : Int) (x3 : Int) (x4 : (List Int)) (x5 : (List Int)) : Option ((Int × Int × Int × Int × (List Int) × (List Int)) ⊕ ((List Int) × Int)) := (cond (decide (x3 < x2)) (cond (inB x3 (List.length x5)) (cond (decide (x1 = 0)) none (Option.bind (s_ieven (List.getD x5 (Int.toNat x3) 0) (IntKind.wrap .i64 (Int.tdiv (IntKind.wrap .i64 ((IntKind.wrap .i64 ((List.getD x5 (Int.toNat x3) 0) + x1)) - 1)) x1))) fun r3 => (cond (!r3.2) (some (Sum.inr ([], 6))) (Option.bind (s_iRow_isBetween (r3.1) x0 x1) fun r4 => (cond (!r4) (some (Sum.inr ([], 6))) (cond (fits ((List.length (x4 : List Int) + List.length (r3.1 : List Int)) * 2)) (some (Sum.inl (x0, x1, x2, (IntKind.wrap .i64 (x3 + 1)), (x4 ++ r3.1), x5))) none)))))) none) (cond (decide (((List.length x4 : Nat) : Int) > 60)) (some (Sum.inr ([], 3))) (some (Sum.inr (x4, 0)))))
noncomputable def f_iStonesAlong_run10 (x : (Int × Int × Int × Int × (List Int) × (List Int))) : Option ((List Int) × Int) := iter (fun x => f_iStonesAlong_n10 x.1 x.2.1 x.2.2.1 x.2.2.2.1 x.2.2.2.2.1 x.2.2.2.2.2) FU x
noncomputable def f_iStonesAlong_G10 (r : List A) (x : (Int × Int × Int × Int × (List Int) × (List Int))) : Prop := f_iStonesAlong_L r 10 (f_iStonesAlong_s10 x.1 x.2.1 x.2.2.1 x.2.2.2.1 x.2.2.2.2.1 x.2.2.2.2.2) = some r
noncomputable def f_iStonesAlong_S10 (r : List A) : ((List Int) × Int) → Prop := fun v => r = l_iStonesAlong v
theorem f_iStonesAlong_go10 (r : List A) : ∀ x, sem (f_iStonesAlong_S10 r) (f_iStonesAlong_run10 x) → f_iStonesAlong_G10 r x :=
  fun x => iter_sound (step := fun x => f_iStonesAlong_n10 x.1 x.2.1 x.2.2.1 x.2.2.2.1 x.2.2.2.2.1 x.2.2.2.2.2) (fun x h => by
    unfold f_iStonesAlong_n10 at h
    exact f_iStonesAlong_step10 x.1 x.2.1 x.2.2.1 x.2.2.2.1 x.2.2.2.2.1 x.2.2.2.2.2 r ((sem_cond h (fun h => (sem_cond h (fun h => (sem_cond h (fun h => sem_none h) (fun h => (sem_bind h fun r3 h => (sem_cond h (fun h => sem_got h fun q => some_eq q) (fun h => (sem_bind h fun r4 h => (sem_cond h (fun h => sem_got h fun q => some_eq q) (fun h => (sem_cond h (fun h => sem_got h fun q => q) (fun h => sem_none h))))))))))) (fun h => sem_none h))) (fun h => (sem_cond h (fun h => sem_got h fun q => some_eq q) (fun h => sem_got h fun q => some_eq q)))))) FU x
noncomputable def s_iStonesAlong (a0 : ByteArray) (a1 : Int) (a2 : Int) : Option ((List Int) × Int) := (Option.bind (s_iisWidth [a1, a2]) fun r1 => (cond (!r1) (some ([], 2)) (Option.bind (s_istraights a0) fun r2 => (cond (!r2.2) (some ([], 5)) (cond (decide (a1 > a2)) (some ([], 4)) (f_iStonesAlong_run10 (a1, a2, ((List.length r2.1 : Nat) : Int), 0, [], r2.1)))))))
theorem f_iStonesAlong_top (a0 : ByteArray) (a1 : Int) (a2 : Int) (r : List A) : ev f_iStonesAlong_X (lpc (cnOf f_iStonesAlong_LV) (f_iStonesAlong_L r)) f_iStonesAlong_c (K0 TT f_iStonesAlong_rv) (enter [.v (.string a0), .v (.int .i64 a1), .v (.int .i64 a2)]) = (Option.bind (s_iisWidth [a1, a2]) fun r1 => (cond (!r1) (some [.lst (.one (.i .i16)) [], .v (.int .i64 2)]) (Option.bind (s_istraights a0) fun r2 => (cond (!r2.2) (some [.lst (.one (.i .i16)) [], .v (.int .i64 5)]) (cond (decide (a1 > a2)) (some [.lst (.one (.i .i16)) [], .v (.int .i64 4)]) (f_iStonesAlong_L r 10 (f_iStonesAlong_s10 a1 a2 ((List.length r2.1 : Nat) : Int) 0 [] r2.1))))))) := by kernel_rfl
theorem s_iStonesAlong_ok (a0 : ByteArray) (a1 : Int) (a2 : Int) (v : ((List Int) × Int)) (h : s_iStonesAlong a0 a1 a2 = some v) : (Option.bind (s_iisWidth [a1, a2]) fun r1 => (cond (!r1) (some [.lst (.one (.i .i16)) [], .v (.int .i64 2)]) (Option.bind (s_istraights a0) fun r2 => (cond (!r2.2) (some [.lst (.one (.i .i16)) [], .v (.int .i64 5)]) (cond (decide (a1 > a2)) (some [.lst (.one (.i .i16)) [], .v (.int .i64 4)]) (f_iStonesAlong_L (l_iStonesAlong v) 10 (f_iStonesAlong_s10 a1 a2 ((List.length r2.1 : Nat) : Int) 0 [] r2.1))))))) = some (l_iStonesAlong v) := by
  unfold s_iStonesAlong at h
  have go : ∀ r, sem (fun v => r = l_iStonesAlong v) ((Option.bind (s_iisWidth [a1, a2]) fun r1 => (cond (!r1) (some ([], 2)) (Option.bind (s_istraights a0) fun r2 => (cond (!r2.2) (some ([], 5)) (cond (decide (a1 > a2)) (some ([], 4)) (f_iStonesAlong_run10 (a1, a2, ((List.length r2.1 : Nat) : Int), 0, [], r2.1)))))))) → (Option.bind (s_iisWidth [a1, a2]) fun r1 => (cond (!r1) (some [.lst (.one (.i .i16)) [], .v (.int .i64 2)]) (Option.bind (s_istraights a0) fun r2 => (cond (!r2.2) (some [.lst (.one (.i .i16)) [], .v (.int .i64 5)]) (cond (decide (a1 > a2)) (some [.lst (.one (.i .i16)) [], .v (.int .i64 4)]) (f_iStonesAlong_L r 10 (f_iStonesAlong_s10 a1 a2 ((List.length r2.1 : Nat) : Int) 0 [] r2.1))))))) = some r := fun r h => (sem_bind h fun r1 h => (sem_cond h (fun h => sem_got h fun q => some_eq q) (fun h => (sem_bind h fun r2 h => (sem_cond h (fun h => sem_got h fun q => some_eq q) (fun h => (sem_cond h (fun h => sem_got h fun q => some_eq q) (fun h => f_iStonesAlong_go10 r _ h))))))))
  exact go (l_iStonesAlong v) ⟨v, h, rfl⟩
noncomputable def c_iStonesAlong : List A → ACall
  | [.v (.string a0), .v (.int .i64 a1), .v (.int .i64 a2)] => ⟨((List Int) × Int), s_iStonesAlong a0 a1 a2, fun r => .tup [.lst (.one (.i .i16)) r.1, .v (.int .i64 r.2)]⟩
  | _ => ACall.fail
theorem f_iStonesAlong_sound : Sound Tryd.prog 31 c_iStonesAlong := by
  refine sound_good f_iStonesAlong_ctx f_iStonesAlong_LV 3 Tryd.func31 (c := f_iStonesAlong_c) (by kernel_rfl) (rv := f_iStonesAlong_rv) (by kernel_rfl) (by kernel_rfl) (by kernel_rfl) (by kernel_rfl) fun rs => ?_
  unfold c_iStonesAlong
  split
  · rename_i a0 a1 a2; intro v h; exact ⟨rfl, l_iStonesAlong v, rfl, (f_iStonesAlong_top a0 a1 a2 _).trans (s_iStonesAlong_ok a0 a1 a2 v h)⟩
  · intro v h; cases h

/-! ### function 40: loop.example/g01322/spec.l05Width -/
noncomputable def f_sl05Width_c : Code := match Tryd.f40.body with | some c => c | none => .skip
noncomputable def f_sl05Width_X : Ctx := ⟨TT, phiOf [(57, c_sl00In)], noPsi, noXi⟩
def f_sl05Width_LV : List (Nat × Keep) := []
def f_sl05Width_rv : List ResultVar := [.tmp 2]
noncomputable def f_sl05Width_L (r : List A) : Nat → AS → Option (List A) := L f_sl05Width_X (cnOf f_sl05Width_LV) f_sl05Width_c (K0 TT f_sl05Width_rv) r
theorem f_sl05Width_ctx : CtxOK Tryd.prog f_sl05Width_X := ctx_of tab mix ⟨⟨Tryd.call57, f_sl00In_sound⟩, trivial⟩
noncomputable def s_sl05Width (a0 : Int) : Bool := (s_sl00In a0 1 200)
theorem f_sl05Width_top (a0 : Int) (r : List A) : ev f_sl05Width_X (lpc (cnOf f_sl05Width_LV) (f_sl05Width_L r)) f_sl05Width_c (K0 TT f_sl05Width_rv) (enter [.v (.int .i64 a0)]) = (some [.v (.bool (s_sl00In a0 1 200))]) := by kernel_rfl
noncomputable def l_sl05Width (r : Bool) : List A := [.v (.bool r)]
theorem s_sl05Width_ok (a0 : Int) : (some [.v (.bool (s_sl00In a0 1 200))]) = some (l_sl05Width (s_sl05Width a0)) := by
  unfold s_sl05Width
  exact rfl
noncomputable def c_sl05Width : List A → ACall
  | [.v (.int .i64 a0)] => ⟨Bool, some (s_sl05Width a0), fun r => .one (.v (.bool r))⟩
  | _ => ACall.fail
theorem f_sl05Width_sound : Sound Tryd.prog 40 c_sl05Width := by
  refine sound_good f_sl05Width_ctx f_sl05Width_LV 1 Tryd.func40 (c := f_sl05Width_c) (by kernel_rfl) (rv := f_sl05Width_rv) (by kernel_rfl) (by kernel_rfl) (by kernel_rfl) (by kernel_rfl) fun rs => ?_
  unfold c_sl05Width
  split
  · rename_i a0; intro v h; cases h; exact ⟨rfl, l_sl05Width (s_sl05Width a0), rfl, (f_sl05Width_top a0 _).trans (s_sl05Width_ok a0)⟩
  · intro v h; cases h

/-! ### function 32: loop.example/g01322/spec.StonesAlong -/
noncomputable def f_sStonesAlong_c : Code := match Tryd.f32.body with | some c => c | none => .skip
noncomputable def f_sStonesAlong_X : Ctx := ⟨TT, phiOf [(40, c_sl05Width), (72, c_sl05Path)], noPsi, noXi⟩
def f_sStonesAlong_LV : List (Nat × Keep) := [(10, ([1, 2, 8, 10, 11], [], [])), (16, ([1, 2, 8, 10, 11, 12, 13], [], [])), (26, ([10, 15, 16], [], []))]
def f_sStonesAlong_rv : List ResultVar := [.tmp 6, .tmp 7]
noncomputable def f_sStonesAlong_L (r : List A) : Nat → AS → Option (List A) := L f_sStonesAlong_X (cnOf f_sStonesAlong_LV) f_sStonesAlong_c (K0 TT f_sStonesAlong_rv) r
theorem f_sStonesAlong_ctx : CtxOK Tryd.prog f_sStonesAlong_X := ctx_of tab mix ⟨⟨Tryd.call40, f_sl05Width_sound⟩, ⟨Tryd.call72, f_sl05Path_sound⟩, trivial⟩
noncomputable def f_sStonesAlong_s10 (x0 : Int) (x1 : Int) (x2 : Int) (x3 : (List Int)) (x4 : (List Int)) : AS := ⟨[(1, .a (.v (.int .i64 x0))), (2, .a (.v (.int .i64 x1))), (8, .a (.sl 0)), (10, .a (.sl 1)), (11, .a (.v (.int .i64 x2)))], [(0, some ⟨true, .arr (.one (.i .i64)) x3⟩), (1, some ⟨true, .arr (.one (.i .i64)) x4⟩)], 2⟩
noncomputable def f_sStonesAlong_s16 (x0 : Int) (x1 : Int) (x2 : Int) (x3 : Int) (x4 : Int) (x5 : (List Int)) (x6 : (List Int)) : AS := ⟨[(1, .a (.v (.int .i64 x0))), (2, .a (.v (.int .i64 x1))), (8, .a (.sl 0)), (10, .a (.sl 1)), (11, .a (.v (.int .i64 x2))), (12, .a (.v (.int .i64 x3))), (13, .a (.v (.int .i64 x4)))], [(0, some ⟨true, .arr (.one (.i .i64)) x5⟩), (1, some ⟨true, .arr (.one (.i .i64)) x6⟩)], 2⟩
noncomputable def f_sStonesAlong_s26 (x0 : Int) (x1 : (List Int)) (x2 : (List Int)) : AS := ⟨[(10, .a (.sl 0)), (15, .a (.sl 1)), (16, .a (.v (.int .i64 x0)))], [(0, some ⟨true, .arr (.one (.i .i64)) x1⟩), (1, some ⟨true, .arr (.one (.i .i16)) x2⟩)], 2⟩
noncomputable def l_sStonesAlong (r : ((List Int) × Int)) : List A := [.lst (.one (.i .i16)) r.1, .v (.int .i64 r.2)]
theorem f_sStonesAlong_step16 (x0 : Int) (x1 : Int) (x2 : Int) (x3 : Int) (x4 : Int) (x5 : (List Int)) (x6 : (List Int)) (r : List A) (h : (cond (decide (x4 < x3)) (cond (inB x2 (List.length x5)) (cond (decide (x3 = 0)) none (cond (inB x2 (List.length x5)) (cond (decide (x3 = 0)) none (cond (decide (x4 < (Int.tmod (List.getD x5 (Int.toNat x2) 0) x3))) (cond (fits ((List.length (x6 : List Int) + List.length ([(IntKind.wrap .i64 ((IntKind.wrap .i64 (Int.tdiv (List.getD x5 (Int.toNat x2) 0) x3)) + 1))] : List Int)) * 8)) (f_sStonesAlong_L r 16 (f_sStonesAlong_s16 x0 x1 x2 x3 (IntKind.wrap .i64 (x4 + 1)) x5 (x6 ++ [(IntKind.wrap .i64 ((IntKind.wrap .i64 (Int.tdiv (List.getD x5 (Int.toNat x2) 0) x3)) + 1))]))) none) (cond (fits ((List.length (x6 : List Int) + List.length ([(IntKind.wrap .i64 (Int.tdiv (List.getD x5 (Int.toNat x2) 0) x3))] : List Int)) * 8)) (f_sStonesAlong_L r 16 (f_sStonesAlong_s16 x0 x1 x2 x3 (IntKind.wrap .i64 (x4 + 1)) x5 (x6 ++ [(IntKind.wrap .i64 (Int.tdiv (List.getD x5 (Int.toNat x2) 0) x3))]))) none))) none)) none) (f_sStonesAlong_L r 10 (f_sStonesAlong_s10 x0 x1 (IntKind.wrap .i64 (x2 + 1)) x5 x6))) = some r) : f_sStonesAlong_L r 16 (f_sStonesAlong_s16 x0 x1 x2 x3 x4 x5 x6) = some r :=
  step_of' h (by kernel_rfl)
noncomputable def f_sStonesAlong_n16 (x0 : Int) (x1 : Int) (x2 : Int) (x3 : Int) (x4 : Int) (x5 : (List Int)) (x6 : (List Int)) : Option ((Int × Int × Int × Int × Int × (List Int) × (List Int)) ⊕ ((Int × Int × Int × (List Int) × (List Int)) ⊕ ((List Int) × Int))) := (cond (decide (x4 < x3)) (cond (inB x2 (List.length x5)) (cond (decide (x3 = 0)) none (cond (inB x2 (List.length x5)) (cond (decide (x3 = 0)) none (cond (decide (x4 < (Int.tmod (List.getD x5 (Int.toNat x2) 0) x3))) (cond (fits ((List.length (x6 : List Int) + List.length ([(IntKind.wrap .i64 ((IntKind.wrap .i64 (Int.tdiv (List.getD x5 (Int.toNat x2) 0) x3)) + 1))] : List Int)) * 8)) (some (Sum.inl (x0, x1, x2, x3, (IntKind.wrap .i64 (x4 + 1)), x5, (x6 ++ [(IntKind.wrap .i64 ((IntKind.wrap .i64 (Int.tdiv (List.getD x5 (Int.toNat x2) 0) x3)) + 1))])))) none) (cond (fits ((List.length (x6 : List Int) + List.length ([(IntKind.wrap .i64 (Int.tdiv (List.getD x5 (Int.toNat x2) 0) x3))] : List Int)) * 8)) (some (Sum.inl (x0, x1, x2, x3, (IntKind.wrap .i64 (x4 + 1)), x5, (x6 ++ [(IntKind.wrap .i64 (Int.tdiv (List.getD x5 (Int.toNat x2) 0) x3))])))) none))) none)) none) (some (Sum.inr (Sum.inl (x0, x1, (IntKind.wrap .i64 (x2 + 1)), x5, x6)))))
noncomputable def f_sStonesAlong_run16 (x : (Int × Int × Int × Int × Int × (List Int) × (List Int))) : Option ((Int × Int × Int × (List Int) × (List Int)) ⊕ ((List Int) × Int)) := iter (fun x => f_sStonesAlong_n16 x.1 x.2.1 x.2.2.1 x.2.2.2.1 x.2.2.2.2.1 x.2.2.2.2.2.1 x.2.2.2.2.2.2) FU x
noncomputable def f_sStonesAlong_G16 (r : List A) (x : (Int × Int × Int × Int × Int × (List Int) × (List Int))) : Prop := f_sStonesAlong_L r 16 (f_sStonesAlong_s16 x.1 x.2.1 x.2.2.1 x.2.2.2.1 x.2.2.2.2.1 x.2.2.2.2.2.1 x.2.2.2.2.2.2) = some r
theorem f_sStonesAlong_step26 (x0 : Int) (x1 : (List Int)) (x2 : (List Int)) (r : List A) (h : (cond (decide (x0 < ((List.length x1 : Nat) : Int))) (cond (inB x0 (List.length x1)) (cond (fits ((List.length (x2 : List Int) + List.length ([(IntKind.wrap .i16 (List.getD x1 (Int.toNat x0) 0))] : List Int)) * 2)) (f_sStonesAlong_L r 26 (f_sStonesAlong_s26 (IntKind.wrap .i64 (x0 + 1)) x1 (x2 ++ [(IntKind.wrap .i16 (List.getD x1 (Int.toNat x0) 0))]))) none) none) (some [.lst (.one (.i .i16)) x2, .v (.int .i64 0)])) = some r) : f_sStonesAlong_L r 26 (f_sStonesAlong_s26 x0 x1 x2) = some r :=
  step_of' h (by kernel_rfl)
noncomputable def f_sStonesAlong_n26 (x0 : Int) (x1 : (List Int)) (x2 : (List Int)) : Option ((Int × (List Int) × (List Int)) ⊕ ((List Int) × Int)) := (cond (decide (x0 < ((List.length x1 : Nat) : Int))) (cond (inB x0 (List.length x1)) (cond (fits ((List.length (x2 : List Int) + List.length ([(IntKind.wrap .i16 (List.getD x1 (Int.toNat x0) 0))] : List Int)) * 2)) (some (Sum.inl ((IntKind.wrap .i64 (x0 + 1)), x1, (x2 ++ [(IntKind.wrap .i16 (List.getD x1 (Int.toNat x0) 0))])))) none) none) (some (Sum.inr (x2, 0))))
noncomputable def f_sStonesAlong_run26 (x : (Int × (List Int) × (List Int))) : Option ((List Int) × Int) := iter (fun x => f_sStonesAlong_n26 x.1 x.2.1 x.2.2) FU x
noncomputable def f_sStonesAlong_G26 (r : List A) (x : (Int × (List Int) × (List Int))) : Prop := f_sStonesAlong_L r 26 (f_sStonesAlong_s26 x.1 x.2.1 x.2.2) = some r
theorem f_sStonesAlong_step10 (x0 : Int) (x1 : Int) (x2 : Int) (x3 : (List Int)) (x4 : (List Int)) (r : List A) (h : (cond (decide (x2 < ((List.length x3 : Nat) : Int))) (cond (inB x2 (List.length x3)) (cond (decide (x1 = 0)) none (cond (inB x2 (List.length x3)) (cond (decide ((IntKind.wrap .i64 (Int.tdiv (IntKind.wrap .i64 ((IntKind.wrap .i64 ((List.getD x3 (Int.toNat x2) 0) + x1)) - 1)) x1)) = 0)) none (cond (decide ((IntKind.wrap .i64 (Int.tdiv (List.getD x3 (Int.toNat x2) 0) (IntKind.wrap .i64 (Int.tdiv (IntKind.wrap .i64 ((IntKind.wrap .i64 ((List.getD x3 (Int.toNat x2) 0) + x1)) - 1)) x1)))) < x0)) (some [.lst (.one (.i .i16)) [], .v (.int .i64 6)]) (f_sStonesAlong_L r 16 (f_sStonesAlong_s16 x0 x1 x2 (IntKind.wrap .i64 (Int.tdiv (IntKind.wrap .i64 ((IntKind.wrap .i64 ((List.getD x3 (Int.toNat x2) 0) + x1)) - 1)) x1)) 0 x3 x4)))) none)) none) (cond (decide (((List.length x4 : Nat) : Int) > 60)) (some [.lst (.one (.i .i16)) [], .v (.int .i64 3)]) (f_sStonesAlong_L r 26 (f_sStonesAlong_s26 0 x4 [])))) = some r) : f_sStonesAlong_L r 10 (f_sStonesAlong_s10 x0 x1 x2 x3 x4) = some r :=
  step_of' h (by kernel_rfl)
noncomputable def f_sStonesAlong_n10 (x0 : Int) (x1 : Int) (x2 : Int) (x3 : (List Int)) (x4 : (List Int)) : Option ((Int × Int × Int × (List Int) × (List Int)) ⊕ ((List Int) × Int)) := (cond (decide (x2 < ((List.length x3 : Nat) : Int))) (cond (inB x2 (List.length x3)) (cond (decide (x1 = 0)) none (cond (inB x2 (List.length x3)) (cond (decide ((IntKind.wrap .i64 (Int.tdiv (IntKind.wrap .i64 ((IntKind.wrap .i64 ((List.getD x3 (Int.toNat x2) 0) + x1)) - 1)) x1)) = 0)) none (cond (decide ((IntKind.wrap .i64 (Int.tdiv (List.getD x3 (Int.toNat x2) 0) (IntKind.wrap .i64 (Int.tdiv (IntKind.wrap .i64 ((IntKind.wrap .i64 ((List.getD x3 (Int.toNat x2) 0) + x1)) - 1)) x1)))) < x0)) (some (Sum.inr ([], 6))) (f_sStonesAlong_run16 (x0, x1, x2, (IntKind.wrap .i64 (Int.tdiv (IntKind.wrap .i64 ((IntKind.wrap .i64 ((List.getD x3 (Int.toNat x2) 0) + x1)) - 1)) x1)), 0, x3, x4)))) none)) none) (cond (decide (((List.length x4 : Nat) : Int) > 60)) (some (Sum.inr ([], 3))) (Option.map (fun x => (Sum.inr x)) (f_sStonesAlong_run26 (0, x4, [])))))
noncomputable def f_sStonesAlong_run10 (x : (Int × Int × Int × (List Int) × (List Int))) : Option ((List Int) × Int) := iter (fun x => f_sStonesAlong_n10 x.1 x.2.1 x.2.2.1 x.2.2.2.1 x.2.2.2.2) FU x
noncomputable def f_sStonesAlong_G10 (r : List A) (x : (Int × Int × Int × (List Int) × (List Int))) : Prop := f_sStonesAlong_L r 10 (f_sStonesAlong_s10 x.1 x.2.1 x.2.2.1 x.2.2.2.1 x.2.2.2.2) = some r
noncomputable def f_sStonesAlong_S10 (r : List A) : ((List Int) × Int) → Prop := fun v => r = l_sStonesAlong v
noncomputable def f_sStonesAlong_S16 (r : List A) : ((Int × Int × Int × (List Int) × (List Int)) ⊕ ((List Int) × Int)) → Prop := goesOn (f_sStonesAlong_G10 r) (f_sStonesAlong_S10 r)
noncomputable def f_sStonesAlong_S26 (r : List A) : ((List Int) × Int) → Prop := fun v => r = l_sStonesAlong v
theorem f_sStonesAlong_go16 (r : List A) : ∀ x, sem (f_sStonesAlong_S16 r) (f_sStonesAlong_run16 x) → f_sStonesAlong_G16 r x :=
  fun x => iter_sound (step := fun x => f_sStonesAlong_n16 x.1 x.2.1 x.2.2.1 x.2.2.2.1 x.2.2.2.2.1 x.2.2.2.2.2.1 x.2.2.2.2.2.2) (fun x h => by
    unfold f_sStonesAlong_n16 at h
    exact f_sStonesAlong_step16 x.1 x.2.1 x.2.2.1 x.2.2.2.1 x.2.2.2.2.1 x.2.2.2.2.2.1 x.2.2.2.2.2.2 r ((sem_cond h (fun h => (sem_cond h (fun h => (sem_cond h (fun h => sem_none h) (fun h => (sem_cond h (fun h => (sem_cond h (fun h => sem_none h) (fun h => (sem_cond h (fun h => (sem_cond h (fun h => sem_got h fun q => q) (fun h => sem_none h))) (fun h => (sem_cond h (fun h => sem_got h fun q => q) (fun h => sem_none h))))))) (fun h => sem_none h))))) (fun h => sem_none h))) (fun h => sem_got h fun q => q)))) FU x
theorem f_sStonesAlong_go26 (r : List A) : ∀ x, sem (f_sStonesAlong_S26 r) (f_sStonesAlong_run26 x) → f_sStonesAlong_G26 r x :=
  fun x => iter_sound (step := fun x => f_sStonesAlong_n26 x.1 x.2.1 x.2.2) (fun x h => by
    unfold f_sStonesAlong_n26 at h
    exact f_sStonesAlong_step26 x.1 x.2.1 x.2.2 r ((sem_cond h (fun h => (sem_cond h (fun h => (sem_cond h (fun h => sem_got h fun q => q) (fun h => sem_none h))) (fun h => sem_none h))) (fun h => sem_got h fun q => some_eq q)))) FU x
theorem f_sStonesAlong_go10 (r : List A) : ∀ x, sem (f_sStonesAlong_S10 r) (f_sStonesAlong_run10 x) → f_sStonesAlong_G10 r x :=
  fun x => iter_sound (step := fun x => f_sStonesAlong_n10 x.1 x.2.1 x.2.2.1 x.2.2.2.1 x.2.2.2.2) (fun x h => by
    unfold f_sStonesAlong_n10 at h
    exact f_sStonesAlong_step10 x.1 x.2.1 x.2.2.1 x.2.2.2.1 x.2.2.2.2 r ((sem_cond h (fun h => (sem_cond h (fun h => (sem_cond h (fun h => sem_none h) (fun h => (sem_cond h (fun h => (sem_cond h (fun h => sem_none h) (fun h => (sem_cond h (fun h => sem_got h fun q => some_eq q) (fun h => f_sStonesAlong_go16 r _ h))))) (fun h => sem_none h))))) (fun h => sem_none h))) (fun h => (sem_cond h (fun h => sem_got h fun q => some_eq q) (fun h => f_sStonesAlong_go26 r _ (sem_mapk h fun _ q => q))))))) FU x
noncomputable def s_sStonesAlong (a0 : ByteArray) (a1 : Int) (a2 : Int) : Option ((List Int) × Int) := (cond (!(s_sl05Width a1)) (some ([], 2)) (cond (!(s_sl05Width a2)) (some ([], 2)) (Option.bind (s_sl05Path a0) fun r1 => (cond (!r1.2) (some ([], 5)) (cond (decide (a1 > a2)) (some ([], 4)) (f_sStonesAlong_run10 (a1, a2, 0, r1.1, [])))))))
theorem f_sStonesAlong_top (a0 : ByteArray) (a1 : Int) (a2 : Int) (r : List A) : ev f_sStonesAlong_X (lpc (cnOf f_sStonesAlong_LV) (f_sStonesAlong_L r)) f_sStonesAlong_c (K0 TT f_sStonesAlong_rv) (enter [.v (.string a0), .v (.int .i64 a1), .v (.int .i64 a2)]) = (cond (!(s_sl05Width a1)) (some [.lst (.one (.i .i16)) [], .v (.int .i64 2)]) (cond (!(s_sl05Width a2)) (some [.lst (.one (.i .i16)) [], .v (.int .i64 2)]) (Option.bind (s_sl05Path a0) fun r1 => (cond (!r1.2) (some [.lst (.one (.i .i16)) [], .v (.int .i64 5)]) (cond (decide (a1 > a2)) (some [.lst (.one (.i .i16)) [], .v (.int .i64 4)]) (f_sStonesAlong_L r 10 (f_sStonesAlong_s10 a1 a2 0 r1.1 []))))))) := by kernel_rfl
theorem s_sStonesAlong_ok (a0 : ByteArray) (a1 : Int) (a2 : Int) (v : ((List Int) × Int)) (h : s_sStonesAlong a0 a1 a2 = some v) : (cond (!(s_sl05Width a1)) (some [.lst (.one (.i .i16)) [], .v (.int .i64 2)]) (cond (!(s_sl05Width a2)) (some [.lst (.one (.i .i16)) [], .v (.int .i64 2)]) (Option.bind (s_sl05Path a0) fun r1 => (cond (!r1.2) (some [.lst (.one (.i .i16)) [], .v (.int .i64 5)]) (cond (decide (a1 > a2)) (some [.lst (.one (.i .i16)) [], .v (.int .i64 4)]) (f_sStonesAlong_L (l_sStonesAlong v) 10 (f_sStonesAlong_s10 a1 a2 0 r1.1 []))))))) = some (l_sStonesAlong v) := by
  unfold s_sStonesAlong at h
  have go : ∀ r, sem (fun v => r = l_sStonesAlong v) ((cond (!(s_sl05Width a1)) (some ([], 2)) (cond (!(s_sl05Width a2)) (some ([], 2)) (Option.bind (s_sl05Path a0) fun r1 => (cond (!r1.2) (some ([], 5)) (cond (decide (a1 > a2)) (some ([], 4)) (f_sStonesAlong_run10 (a1, a2, 0, r1.1, [])))))))) → (cond (!(s_sl05Width a1)) (some [.lst (.one (.i .i16)) [], .v (.int .i64 2)]) (cond (!(s_sl05Width a2)) (some [.lst (.one (.i .i16)) [], .v (.int .i64 2)]) (Option.bind (s_sl05Path a0) fun r1 => (cond (!r1.2) (some [.lst (.one (.i .i16)) [], .v (.int .i64 5)]) (cond (decide (a1 > a2)) (some [.lst (.one (.i .i16)) [], .v (.int .i64 4)]) (f_sStonesAlong_L r 10 (f_sStonesAlong_s10 a1 a2 0 r1.1 []))))))) = some r := fun r h => (sem_cond h (fun h => sem_got h fun q => some_eq q) (fun h => (sem_cond h (fun h => sem_got h fun q => some_eq q) (fun h => (sem_bind h fun r1 h => (sem_cond h (fun h => sem_got h fun q => some_eq q) (fun h => (sem_cond h (fun h => sem_got h fun q => some_eq q) (fun h => f_sStonesAlong_go10 r _ h)))))))))
  exact go (l_sStonesAlong v) ⟨v, h, rfl⟩
noncomputable def c_sStonesAlong : List A → ACall
  | [.v (.string a0), .v (.int .i64 a1), .v (.int .i64 a2)] => ⟨((List Int) × Int), s_sStonesAlong a0 a1 a2, fun r => .tup [.lst (.one (.i .i16)) r.1, .v (.int .i64 r.2)]⟩
  | _ => ACall.fail
theorem f_sStonesAlong_sound : Sound Tryd.prog 32 c_sStonesAlong := by
  refine sound_good f_sStonesAlong_ctx f_sStonesAlong_LV 3 Tryd.func32 (c := f_sStonesAlong_c) (by kernel_rfl) (rv := f_sStonesAlong_rv) (by kernel_rfl) (by kernel_rfl) (by kernel_rfl) (by kernel_rfl) fun rs => ?_
  unfold c_sStonesAlong
  split
  · rename_i a0 a1 a2; intro v h; exact ⟨rfl, l_sStonesAlong v, rfl, (f_sStonesAlong_top a0 a1 a2 _).trans (s_sStonesAlong_ok a0 a1 a2 v h)⟩
  · intro v h; cases h
end Go.RR
