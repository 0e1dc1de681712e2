/- Rows of a text: the law. -/
import Derived.Test.YtbmaolhjplapoaaDoorVb
import Derived.Test.YtbmaolhjplapoaaDoorRz
set_option linter.unusedVariables false
set_option linter.unusedSimpArgs false
set_option maxRecDepth 100000
namespace Go.RR
open Go Go.Proofs

/-! ### function 57: loop.example/g01322/spec.l00In -/
noncomputable def f_sl00In_c : Code := match Tryd.f57.body with | some c => c | none => .skip
noncomputable def f_sl00In_X : Ctx := ⟨TT, phiOf [], noPsi, noXi⟩
def f_sl00In_LV : List (Nat × Keep) := []
def f_sl00In_rv : List ResultVar := [.tmp 6]
noncomputable def f_sl00In_L (r : List A) : Nat → AS → Option (List A) := L f_sl00In_X (cnOf f_sl00In_LV) f_sl00In_c (K0 TT f_sl00In_rv) r
theorem f_sl00In_ctx : CtxOK Tryd.prog f_sl00In_X := ctx_of tab mix trivial
noncomputable def s_sl00In (a0 : Int) (a1 : Int) (a2 : Int) : Bool := (cond (decide (a0 ≥ a1)) (decide (a0 ≤ a2)) false)
theorem f_sl00In_top (a0 : Int) (a1 : Int) (a2 : Int) (r : List A) : ev f_sl00In_X (lpc (cnOf f_sl00In_LV) (f_sl00In_L r)) f_sl00In_c (K0 TT f_sl00In_rv) (enter [.v (.int .i64 a0), .v (.int .i64 a1), .v (.int .i64 a2)]) = (cond (decide (a0 ≥ a1)) (some [.v (.bool (decide (a0 ≤ a2)))]) (some [.v (.bool false)])) := by kernel_rfl
noncomputable def l_sl00In (r : Bool) : List A := [.v (.bool r)]
theorem s_sl00In_ok (a0 : Int) (a1 : Int) (a2 : Int) : (cond (decide (a0 ≥ a1)) (some [.v (.bool (decide (a0 ≤ a2)))]) (some [.v (.bool false)])) = some (l_sl00In (s_sl00In a0 a1 a2)) := by
  unfold s_sl00In
  exact (cond_app (fun x => some (l_sl00In x)) rfl rfl)
noncomputable def c_sl00In : List A → ACall
  | [.v (.int .i64 a0), .v (.int .i64 a1), .v (.int .i64 a2)] => ⟨Bool, some (s_sl00In a0 a1 a2), fun r => .one (.v (.bool r))⟩
  | _ => ACall.fail
theorem f_sl00In_sound : Sound Tryd.prog 57 c_sl00In := by
  refine sound_good f_sl00In_ctx f_sl00In_LV 3 Tryd.func57 (c := f_sl00In_c) (by kernel_rfl) (rv := f_sl00In_rv) (by kernel_rfl) (by kernel_rfl) (by kernel_rfl) (by kernel_rfl) fun rs => ?_
  unfold c_sl00In
  split
  · rename_i a0 a1 a2; intro v h; cases h; exact ⟨rfl, l_sl00In (s_sl00In a0 a1 a2), rfl, (f_sl00In_top a0 a1 a2 _).trans (s_sl00In_ok a0 a1 a2)⟩
  · intro v h; cases h

/-! ### function 40: loop.example/g01322/spec.l05Width -/
noncomputable def f_sl05Width_c : Code := match Tryd.f40.body with | some c => c | none => .skip
noncomputable def f_sl05Width_X : Ctx := ⟨TT, phiOf [(57, c_sl00In)], noPsi, noXi⟩
def f_sl05Width_LV : List (Nat × Keep) := []
def f_sl05Width_rv : List ResultVar := [.tmp 2]
noncomputable def f_sl05Width_L (r : List A) : Nat → AS → Option (List A) := L f_sl05Width_X (cnOf f_sl05Width_LV) f_sl05Width_c (K0 TT f_sl05Width_rv) r
theorem f_sl05Width_ctx : CtxOK Tryd.prog f_sl05Width_X := ctx_of tab mix ⟨⟨Tryd.call57, f_sl00In_sound⟩, trivial⟩
noncomputable def s_sl05Width (a0 : Int) : Bool := (s_sl00In a0 1 200)
theorem f_sl05Width_top (a0 : Int) (r : List A) : ev f_sl05Width_X (lpc (cnOf f_sl05Width_LV) (f_sl05Width_L r)) f_sl05Width_c (K0 TT f_sl05Width_rv) (enter [.v (.int .i64 a0)]) = (some [.v (.bool (s_sl00In a0 1 200))]) := by kernel_rfl
noncomputable def l_sl05Width (r : Bool) : List A := [.v (.bool r)]
theorem s_sl05Width_ok (a0 : Int) : (some [.v (.bool (s_sl00In a0 1 200))]) = some (l_sl05Width (s_sl05Width a0)) := by
  unfold s_sl05Width
  exact rfl
noncomputable def c_sl05Width : List A → ACall
  | [.v (.int .i64 a0)] => ⟨Bool, some (s_sl05Width a0), fun r => .one (.v (.bool r))⟩
  | _ => ACall.fail
theorem f_sl05Width_sound : Sound Tryd.prog 40 c_sl05Width := by
  refine sound_good f_sl05Width_ctx f_sl05Width_LV 1 Tryd.func40 (c := f_sl05Width_c) (by kernel_rfl) (rv := f_sl05Width_rv) (by kernel_rfl) (by kernel_rfl) (by kernel_rfl) (by kernel_rfl) fun rs => ?_
  unfold c_sl05Width
  split
  · rename_i a0; intro v h; cases h; exact ⟨rfl, l_sl05Width (s_sl05Width a0), rfl, (f_sl05Width_top a0 _).trans (s_sl05Width_ok a0)⟩
  · intro v h; cases h

/-! ### function 41: loop.example/g01322/spec.l05Ok -/
noncomputable def f_sl05Ok_c : Code := match Tryd.f41.body with | some c => c | none => .skip
noncomputable def f_sl05Ok_X : Ctx := ⟨TT, phiOf [(40, c_sl05Width), (57, c_sl00In)], noPsi, noXi⟩
def f_sl05Ok_LV : List (Nat × Keep) := [(4, ([0, 3], [], []))]
def f_sl05Ok_rv : List ResultVar := [.tmp 2]
noncomputable def f_sl05Ok_L (r : List A) : Nat → AS → Option (List A) := L f_sl05Ok_X (cnOf f_sl05Ok_LV) f_sl05Ok_c (K0 TT f_sl05Ok_rv) r
theorem f_sl05Ok_ctx : CtxOK Tryd.prog f_sl05Ok_X := ctx_of tab mix ⟨⟨Tryd.call40, f_sl05Width_sound⟩, ⟨Tryd.call57, f_sl00In_sound⟩, trivial⟩
noncomputable def f_sl05Ok_s4 (x0 : Int) (x1 : (List Int)) : AS := ⟨[(0, .a (.sl 0)), (3, .a (.v (.int .i64 x0)))], [(0, some ⟨false, .arr (.one (.i .i16)) x1⟩)], 1⟩
noncomputable def l_sl05Ok (r : Bool) : List A := [.v (.bool r)]
theorem f_sl05Ok_step4 (x0 : Int) (x1 : (List Int)) (r : List A) (h : (cond (decide (x0 < ((List.length x1 : Nat) : Int))) (cond (inB x0 (List.length x1)) (cond (!(s_sl05Width (IntKind.wrap .i64 (List.getD x1 (Int.toNat x0) 0)))) (some [.v (.bool false)]) (f_sl05Ok_L r 4 (f_sl05Ok_s4 (IntKind.wrap .i64 (x0 + 1)) x1))) none) (some [.v (.bool true)])) = some r) : f_sl05Ok_L r 4 (f_sl05Ok_s4 x0 x1) = some r :=
  step_of' h (by kernel_rfl)
noncomputable def f_sl05Ok_n4 (x0 : Int) (x1 : (List Int)) : Option ((Int × (List Int)) ⊕ Bool) := (cond (decide (x0 < ((List.length x1 : Nat) : Int))) (cond (inB x0 (List.length x1)) (cond (!(s_sl05Width (IntKind.wrap .i64 (List.getD x1 (Int.toNat x0) 0)))) (some (Sum.inr false)) (some (Sum.inl ((IntKind.wrap .i64 (x0 + 1)), x1)))) none) (some (Sum.inr true)))
noncomputable def f_sl05Ok_run4 (x : (Int × (List Int))) : Option Bool := iter (fun x => f_sl05Ok_n4 x.1 x.2) FU x
noncomputable def f_sl05Ok_G4 (r : List A) (x : (Int × (List Int))) : Prop := f_sl05Ok_L r 4 (f_sl05Ok_s4 x.1 x.2) = some r
noncomputable def f_sl05Ok_S4 (r : List A) : Bool → Prop := fun v => r = l_sl05Ok v
theorem f_sl05Ok_go4 (r : List A) : ∀ x, sem (f_sl05Ok_S4 r) (f_sl05Ok_run4 x) → f_sl05Ok_G4 r x :=
  fun x => iter_sound (step := fun x => f_sl05Ok_n4 x.1 x.2) (fun x h => by
    unfold f_sl05Ok_n4 at h
    exact f_sl05Ok_step4 x.1 x.2 r ((sem_cond h (fun h => (sem_cond h (fun h => (sem_cond h (fun h => sem_got h fun q => some_eq q) (fun h => sem_got h fun q => q))) (fun h => sem_none h))) (fun h => sem_got h fun q => some_eq q)))) FU x
noncomputable def s_sl05Ok (a0 : (List Int)) : Option Bool := (cond (!(s_sl00In ((List.length a0 : Nat) : Int) 1 60)) (some false) (f_sl05Ok_run4 (0, a0)))
theorem f_sl05Ok_top (a0 : (List Int)) (r : List A) : ev f_sl05Ok_X (lpc (cnOf f_sl05Ok_LV) (f_sl05Ok_L r)) f_sl05Ok_c (K0 TT f_sl05Ok_rv) (enter [.lst (.one (.i .i16)) a0]) = (cond (!(s_sl00In ((List.length a0 : Nat) : Int) 1 60)) (some [.v (.bool false)]) (f_sl05Ok_L r 4 (f_sl05Ok_s4 0 a0))) := by kernel_rfl
theorem s_sl05Ok_ok (a0 : (List Int)) (v : Bool) (h : s_sl05Ok a0 = some v) : (cond (!(s_sl00In ((List.length a0 : Nat) : Int) 1 60)) (some [.v (.bool false)]) (f_sl05Ok_L (l_sl05Ok v) 4 (f_sl05Ok_s4 0 a0))) = some (l_sl05Ok v) := by
  unfold s_sl05Ok at h
  have go : ∀ r, sem (fun v => r = l_sl05Ok v) ((cond (!(s_sl00In ((List.length a0 : Nat) : Int) 1 60)) (some false) (f_sl05Ok_run4 (0, a0)))) → (cond (!(s_sl00In ((List.length a0 : Nat) : Int) 1 60)) (some [.v (.bool false)]) (f_sl05Ok_L r 4 (f_sl05Ok_s4 0 a0))) = some r := fun r h => (sem_cond h (fun h => sem_got h fun q => some_eq q) (fun h => f_sl05Ok_go4 r _ h))
  exact go (l_sl05Ok v) ⟨v, h, rfl⟩
noncomputable def c_sl05Ok : List A → ACall
  | [.lst (.one (.i .i16)) a0] => ⟨Bool, s_sl05Ok a0, fun r => .one (.v (.bool r))⟩
  | _ => ACall.fail
theorem f_sl05Ok_sound : Sound Tryd.prog 41 c_sl05Ok := by
  refine sound_good f_sl05Ok_ctx f_sl05Ok_LV 1 Tryd.func41 (c := f_sl05Ok_c) (by kernel_rfl) (rv := f_sl05Ok_rv) (by kernel_rfl) (by kernel_rfl) (by kernel_rfl) (by kernel_rfl) fun rs => ?_
  unfold c_sl05Ok
  split
  · rename_i a0; intro v h; exact ⟨rfl, l_sl05Ok v, rfl, (f_sl05Ok_top a0 _).trans (s_sl05Ok_ok a0 v h)⟩
  · intro v h; cases h

/-! ### function 6: loop.example/g01322/spec.ReadRow -/
noncomputable def f_sReadRow_c : Code := match Tryd.f6.body with | some c => c | none => .skip
noncomputable def f_sReadRow_X : Ctx := ⟨TT, phiOf [(38, c_sl01Split), (39, c_sl01Number), (40, c_sl05Width), (41, c_sl05Ok)], noPsi, noXi⟩
def f_sReadRow_LV : List (Nat × Keep) := [(4, ([4, 5, 6], [], []))]
def f_sReadRow_rv : List ResultVar := [.tmp 2, .tmp 3]
noncomputable def f_sReadRow_L (r : List A) : Nat → AS → Option (List A) := L f_sReadRow_X (cnOf f_sReadRow_LV) f_sReadRow_c (K0 TT f_sReadRow_rv) r
theorem f_sReadRow_ctx : CtxOK Tryd.prog f_sReadRow_X := ctx_of tab mix ⟨⟨Tryd.call38, f_sl01Split_sound⟩, ⟨Tryd.call39, f_sl01Number_sound⟩, ⟨Tryd.call40, f_sl05Width_sound⟩, ⟨Tryd.call41, f_sl05Ok_sound⟩, trivial⟩
noncomputable def f_sReadRow_s4 (x0 : Int) (x1 : (List ByteArray)) (x2 : (List Int)) : AS := ⟨[(4, .a (.sl 0)), (5, .a (.sl 1)), (6, .a (.v (.int .i64 x0)))], [(0, some ⟨true, .arr (.one .s) x1⟩), (1, some ⟨true, .arr (.one (.i .i16)) x2⟩)], 2⟩
noncomputable def l_sReadRow (r : ((List Int) × Int)) : List A := [.lst (.one (.i .i16)) r.1, .v (.int .i64 r.2)]
theorem f_sReadRow_step4 (x0 : Int) (x1 : (List ByteArray)) (x2 : (List Int)) (r : List A) (h : (cond (decide (x0 < ((List.length x1 : Nat) : Int))) (cond (inB x0 (List.length x1)) (Option.bind (s_sl01Number (List.getD x1 (Int.toNat x0) (⟨#[]⟩ : ByteArray))) fun r2 => (cond (!r2.2) (some [.lst (.one (.i .i16)) [], .v (.int .i64 5)]) (cond (!(s_sl05Width (r2.1))) (some [.lst (.one (.i .i16)) [], .v (.int .i64 5)]) (cond (fits ((List.length (x2 : List Int) + List.length ([(IntKind.wrap .i16 r2.1)] : List Int)) * 2)) (f_sReadRow_L r 4 (f_sReadRow_s4 (IntKind.wrap .i64 (x0 + 1)) x1 (x2 ++ [(IntKind.wrap .i16 r2.1)]))) none)))) none) (Option.bind (s_sl05Ok x2) fun r3 => (cond (!r3) (some [.lst (.one (.i .i16)) [], .v (.int .i64 5)]) (some [.lst (.one (.i .i16)) x2, .v (.int .i64 0)])))) = some r) : f_sReadRow_L r 4 (f_sReadRow_s4 x0 x1 x2) = some r :=
  step_of' h (by kernel_rfl)
noncomputable def f_sReadRow_n4 (x0 : Int) (x1 : (List ByteArray)) (x2 : (List Int)) : Option ((Int × (List ByteArray) × (List Int)) ⊕ ((List Int) × Int)) := (cond (decide (x0 < ((List.length x1 : Nat) : Int))) (cond (inB x0 (List.length x1)) (Option.bind (s_sl01Number (List.getD x1 (Int.toNat x0) (⟨#[]⟩ : ByteArray))) fun r2 => (cond (!r2.2) (some (Sum.inr ([], 5))) (cond (!(s_sl05Width (r2.1))) (some (Sum.inr ([], 5))) (cond (fits ((List.length (x2 : List Int) + List.length ([(IntKind.wrap .i16 r2.1)] : List Int)) * 2)) (some (Sum.inl ((IntKind.wrap .i64 (x0 + 1)), x1, (x2 ++ [(IntKind.wrap .i16 r2.1)])))) none)))) none) (Option.bind (s_sl05Ok x2) fun r3 => (cond (!r3) (some (Sum.inr ([], 5))) (some (Sum.inr (x2, 0))))))
noncomputable def f_sReadRow_run4 (x : (Int × (List ByteArray) × (List Int))) : Option ((List Int) × Int) := iter (fun x => f_sReadRow_n4 x.1 x.2.1 x.2.2) FU x
noncomputable def f_sReadRow_G4 (r : List A) (x : (Int × (List ByteArray) × (List Int))) : Prop := f_sReadRow_L r 4 (f_sReadRow_s4 x.1 x.2.1 x.2.2) = some r
noncomputable def f_sReadRow_S4 (r : List A) : ((List Int) × Int) → Prop := fun v => r = l_sReadRow v
theorem f_sReadRow_go4 (r : List A) : ∀ x, sem (f_sReadRow_S4 r) (f_sReadRow_run4 x) → f_sReadRow_G4 r x :=
  fun x => iter_sound (step := fun x => f_sReadRow_n4 x.1 x.2.1 x.2.2) (fun x h => by
    unfold f_sReadRow_n4 at h
    exact f_sReadRow_step4 x.1 x.2.1 x.2.2 r ((sem_cond h (fun h => (sem_cond h (fun h => (sem_bind h fun r2 h => (sem_cond h (fun h => sem_got h fun q => some_eq q) (fun h => (sem_cond h (fun h => sem_got h fun q => some_eq q) (fun h => (sem_cond h (fun h => sem_got h fun q => q) (fun h => sem_none h)))))))) (fun h => sem_none h))) (fun h => (sem_bind h fun r3 h => (sem_cond h (fun h => sem_got h fun q => some_eq q) (fun h => sem_got h fun q => some_eq q))))))) FU x
noncomputable def s_sReadRow (a0 : ByteArray) : Option ((List Int) × Int) := (Option.bind (s_sl01Split a0 44) fun r1 => (f_sReadRow_run4 (0, r1, [])))
theorem f_sReadRow_top (a0 : ByteArray) (r : List A) : ev f_sReadRow_X (lpc (cnOf f_sReadRow_LV) (f_sReadRow_L r)) f_sReadRow_c (K0 TT f_sReadRow_rv) (enter [.v (.string a0)]) = (Option.bind (s_sl01Split a0 44) fun r1 => (f_sReadRow_L r 4 (f_sReadRow_s4 0 r1 []))) := by kernel_rfl
theorem s_sReadRow_ok (a0 : ByteArray) (v : ((List Int) × Int)) (h : s_sReadRow a0 = some v) : (Option.bind (s_sl01Split a0 44) fun r1 => (f_sReadRow_L (l_sReadRow v) 4 (f_sReadRow_s4 0 r1 []))) = some (l_sReadRow v) := by
  unfold s_sReadRow at h
  have go : ∀ r, sem (fun v => r = l_sReadRow v) ((Option.bind (s_sl01Split a0 44) fun r1 => (f_sReadRow_run4 (0, r1, [])))) → (Option.bind (s_sl01Split a0 44) fun r1 => (f_sReadRow_L r 4 (f_sReadRow_s4 0 r1 []))) = some r := fun r h => (sem_bind h fun r1 h => f_sReadRow_go4 r _ h)
  exact go (l_sReadRow v) ⟨v, h, rfl⟩
noncomputable def c_sReadRow : List A → ACall
  | [.v (.string a0)] => ⟨((List Int) × Int), s_sReadRow a0, fun r => .tup [.lst (.one (.i .i16)) r.1, .v (.int .i64 r.2)]⟩
  | _ => ACall.fail
theorem f_sReadRow_sound : Sound Tryd.prog 6 c_sReadRow := by
  refine sound_good f_sReadRow_ctx f_sReadRow_LV 1 Tryd.func6 (c := f_sReadRow_c) (by kernel_rfl) (rv := f_sReadRow_rv) (by kernel_rfl) (by kernel_rfl) (by kernel_rfl) (by kernel_rfl) fun rs => ?_
  unfold c_sReadRow
  split
  · rename_i a0; intro v h; exact ⟨rfl, l_sReadRow v, rfl, (f_sReadRow_top a0 _).trans (s_sReadRow_ok a0 v h)⟩
  · intro v h; cases h

/-! ### function 54: loop.example/g01322/impl.within -/
noncomputable def f_iwithin_c : Code := match Tryd.f54.body with | some c => c | none => .skip
noncomputable def f_iwithin_X : Ctx := ⟨TT, phiOf [], noPsi, noXi⟩
def f_iwithin_LV : List (Nat × Keep) := []
def f_iwithin_rv : List ResultVar := [.tmp 6]
noncomputable def f_iwithin_L (r : List A) : Nat → AS → Option (List A) := L f_iwithin_X (cnOf f_iwithin_LV) f_iwithin_c (K0 TT f_iwithin_rv) r
theorem f_iwithin_ctx : CtxOK Tryd.prog f_iwithin_X := ctx_of tab mix trivial
noncomputable def s_iwithin (a0 : Int) (a1 : Int) (a2 : Int) : Bool := (cond (decide (a1 ≤ a0)) (decide (a0 ≤ a2)) false)
theorem f_iwithin_top (a0 : Int) (a1 : Int) (a2 : Int) (r : List A) : ev f_iwithin_X (lpc (cnOf f_iwithin_LV) (f_iwithin_L r)) f_iwithin_c (K0 TT f_iwithin_rv) (enter [.v (.int .i64 a0), .v (.int .i64 a1), .v (.int .i64 a2)]) = (cond (decide (a1 ≤ a0)) (some [.v (.bool (decide (a0 ≤ a2)))]) (some [.v (.bool false)])) := by kernel_rfl
noncomputable def l_iwithin (r : Bool) : List A := [.v (.bool r)]
theorem s_iwithin_ok (a0 : Int) (a1 : Int) (a2 : Int) : (cond (decide (a1 ≤ a0)) (some [.v (.bool (decide (a0 ≤ a2)))]) (some [.v (.bool false)])) = some (l_iwithin (s_iwithin a0 a1 a2)) := by
  unfold s_iwithin
  exact (cond_app (fun x => some (l_iwithin x)) rfl rfl)
noncomputable def c_iwithin : List A → ACall
  | [.v (.int .i64 a0), .v (.int .i64 a1), .v (.int .i64 a2)] => ⟨Bool, some (s_iwithin a0 a1 a2), fun r => .one (.v (.bool r))⟩
  | _ => ACall.fail
theorem f_iwithin_sound : Sound Tryd.prog 54 c_iwithin := by
  refine sound_good f_iwithin_ctx f_iwithin_LV 3 Tryd.func54 (c := f_iwithin_c) (by kernel_rfl) (rv := f_iwithin_rv) (by kernel_rfl) (by kernel_rfl) (by kernel_rfl) (by kernel_rfl) fun rs => ?_
  unfold c_iwithin
  split
  · rename_i a0 a1 a2; intro v h; cases h; exact ⟨rfl, l_iwithin (s_iwithin a0 a1 a2), rfl, (f_iwithin_top a0 a1 a2 _).trans (s_iwithin_ok a0 a1 a2)⟩
  · intro v h; cases h

/-! ### function 87: loop.example/g01322/impl.isWidth$1 -/
noncomputable def f_iisWidth_1_c : Code := match Tryd.f87.body with | some c => c | none => .skip
noncomputable def f_iisWidth_1_X : Ctx := ⟨TT, phiOf [(54, c_iwithin)], noPsi, noXi⟩
def f_iisWidth_1_LV : List (Nat × Keep) := []
def f_iisWidth_1_rv : List ResultVar := [.tmp 2]
noncomputable def f_iisWidth_1_L (r : List A) : Nat → AS → Option (List A) := L f_iisWidth_1_X (cnOf f_iisWidth_1_LV) f_iisWidth_1_c (K0 TT f_iisWidth_1_rv) r
theorem f_iisWidth_1_ctx : CtxOK Tryd.prog f_iisWidth_1_X := ctx_of tab mix ⟨⟨Tryd.call54, f_iwithin_sound⟩, trivial⟩
noncomputable def s_iisWidth_1 (a0 : Int) : Bool := (!(s_iwithin a0 1 200))
theorem f_iisWidth_1_top (a0 : Int) (r : List A) : ev f_iisWidth_1_X (lpc (cnOf f_iisWidth_1_LV) (f_iisWidth_1_L r)) f_iisWidth_1_c (K0 TT f_iisWidth_1_rv) (enter [.v (.int .i64 a0)]) = (some [.v (.bool (!(s_iwithin a0 1 200)))]) := by kernel_rfl
noncomputable def l_iisWidth_1 (r : Bool) : List A := [.v (.bool r)]
theorem s_iisWidth_1_ok (a0 : Int) : (some [.v (.bool (!(s_iwithin a0 1 200)))]) = some (l_iisWidth_1 (s_iisWidth_1 a0)) := by
  unfold s_iisWidth_1
  exact rfl
noncomputable def c_iisWidth_1 : List A → ACall
  | [.v (.int .i64 a0)] => ⟨Bool, some (s_iisWidth_1 a0), fun r => .one (.v (.bool r))⟩
  | _ => ACall.fail
theorem f_iisWidth_1_sound : Sound Tryd.prog 87 c_iisWidth_1 := by
  refine sound_good f_iisWidth_1_ctx f_iisWidth_1_LV 1 Tryd.func87 (c := f_iisWidth_1_c) (by kernel_rfl) (rv := f_iisWidth_1_rv) (by kernel_rfl) (by kernel_rfl) (by kernel_rfl) (by kernel_rfl) fun rs => ?_
  unfold c_iisWidth_1
  split
  · rename_i a0; intro v h; cases h; exact ⟨rfl, l_iisWidth_1 (s_iisWidth_1 a0), rfl, (f_iisWidth_1_top a0 _).trans (s_iisWidth_1_ok a0)⟩
  · intro v h; cases h

/-! ### function 110: slices.IndexFunc[[]int64,int64] -/
noncomputable def f_gIndexFunc_int64_a_c : Code := match Tryd.f110.body with | some c => c | none => .skip
noncomputable def f_gIndexFunc_int64_a_X : Ctx := ⟨TT, phiOf [(87, c_iisWidth_1)], noPsi, noXi⟩
def f_gIndexFunc_int64_a_LV : List (Nat × Keep) := [(2, ([0, 1, 7, 8], [], []))]
def f_gIndexFunc_int64_a_rv : List ResultVar := [.tmp 4]
noncomputable def f_gIndexFunc_int64_a_L (r : List A) : Nat → AS → Option (List A) := L f_gIndexFunc_int64_a_X (cnOf f_gIndexFunc_int64_a_LV) f_gIndexFunc_int64_a_c (K0 TT f_gIndexFunc_int64_a_rv) r
theorem f_gIndexFunc_int64_a_ctx : CtxOK Tryd.prog f_gIndexFunc_int64_a_X := ctx_of tab mix ⟨⟨Tryd.call87, f_iisWidth_1_sound⟩, trivial⟩
noncomputable def f_gIndexFunc_int64_a_s2 (x0 : Int) (x1 : Int) (x2 : (List Int)) : AS := ⟨[(0, .a (.sl 0)), (1, .a (.clo 87 [])), (7, .a (.v (.int .i64 x0))), (8, .a (.v (.int .i64 x1)))], [(0, some ⟨false, .arr (.one (.i .i64)) x2⟩)], 1⟩
noncomputable def l_gIndexFunc_int64_a (r : Int) : List A := [.v (.int .i64 r)]
theorem f_gIndexFunc_int64_a_step2 (x0 : Int) (x1 : Int) (x2 : (List Int)) (r : List A) (h : (cond (decide (x1 < x0)) (cond (inB x1 (List.length x2)) (cond (s_iisWidth_1 (List.getD x2 (Int.toNat x1) 0)) (some [.v (.int .i64 x1)]) (f_gIndexFunc_int64_a_L r 2 (f_gIndexFunc_int64_a_s2 x0 (IntKind.wrap .i64 (x1 + 1)) x2))) none) (some [.v (.int .i64 (-1))])) = some r) : f_gIndexFunc_int64_a_L r 2 (f_gIndexFunc_int64_a_s2 x0 x1 x2) = some r :=
  step_of' h (by kernel_rfl)
noncomputable def f_gIndexFunc_int64_a_n2 (x0 : Int) (x1 : Int) (x2 : (List Int)) : Option ((Int × Int × (List Int)) ⊕ Int) := (cond (decide (x1 < x0)) (cond (inB x1 (List.length x2)) (cond (s_iisWidth_1 (List.getD x2 (Int.toNat x1) 0)) (some (Sum.inr x1)) (some (Sum.inl (x0, (IntKind.wrap .i64 (x1 + 1)), x2)))) none) (some (Sum.inr (-1))))
noncomputable def f_gIndexFunc_int64_a_run2 (x : (Int × Int × (List Int))) : Option Int := iter (fun x => f_gIndexFunc_int64_a_n2 x.1 x.2.1 x.2.2) FU x
noncomputable def f_gIndexFunc_int64_a_G2 (r : List A) (x : (Int × Int × (List Int))) : Prop := f_gIndexFunc_int64_a_L r 2 (f_gIndexFunc_int64_a_s2 x.1 x.2.1 x.2.2) = some r
noncomputable def f_gIndexFunc_int64_a_S2 (r : List A) : Int → Prop := fun v => r = l_gIndexFunc_int64_a v
theorem f_gIndexFunc_int64_a_go2 (r : List A) : ∀ x, sem (f_gIndexFunc_int64_a_S2 r) (f_gIndexFunc_int64_a_run2 x) → f_gIndexFunc_int64_a_G2 r x :=
  fun x => iter_sound (step := fun x => f_gIndexFunc_int64_a_n2 x.1 x.2.1 x.2.2) (fun x h => by
    unfold f_gIndexFunc_int64_a_n2 at h
    exact f_gIndexFunc_int64_a_step2 x.1 x.2.1 x.2.2 r ((sem_cond h (fun h => (sem_cond h (fun h => (sem_cond h (fun h => sem_got h fun q => some_eq q) (fun h => sem_got h fun q => q))) (fun h => sem_none h))) (fun h => sem_got h fun q => some_eq q)))) FU x
noncomputable def s_gIndexFunc_int64_a (a0 : (List Int)) : Option Int := (f_gIndexFunc_int64_a_run2 (((List.length a0 : Nat) : Int), 0, a0))
theorem f_gIndexFunc_int64_a_top (a0 : (List Int)) (r : List A) : ev f_gIndexFunc_int64_a_X (lpc (cnOf f_gIndexFunc_int64_a_LV) (f_gIndexFunc_int64_a_L r)) f_gIndexFunc_int64_a_c (K0 TT f_gIndexFunc_int64_a_rv) (enter [.lst (.one (.i .i64)) a0, .clo 87 []]) = (f_gIndexFunc_int64_a_L r 2 (f_gIndexFunc_int64_a_s2 ((List.length a0 : Nat) : Int) 0 a0)) := by kernel_rfl
theorem s_gIndexFunc_int64_a_ok (a0 : (List Int)) (v : Int) (h : s_gIndexFunc_int64_a a0 = some v) : (f_gIndexFunc_int64_a_L (l_gIndexFunc_int64_a v) 2 (f_gIndexFunc_int64_a_s2 ((List.length a0 : Nat) : Int) 0 a0)) = some (l_gIndexFunc_int64_a v) := by
  unfold s_gIndexFunc_int64_a at h
  have go : ∀ r, sem (fun v => r = l_gIndexFunc_int64_a v) ((f_gIndexFunc_int64_a_run2 (((List.length a0 : Nat) : Int), 0, a0))) → (f_gIndexFunc_int64_a_L r 2 (f_gIndexFunc_int64_a_s2 ((List.length a0 : Nat) : Int) 0 a0)) = some r := fun r h => f_gIndexFunc_int64_a_go2 r _ h
  exact go (l_gIndexFunc_int64_a v) ⟨v, h, rfl⟩
noncomputable def c_gIndexFunc_int64_a : List A → ACall
  | [.lst (.one (.i .i64)) a0, .clo 87 []] => ⟨Int, s_gIndexFunc_int64_a a0, fun r => .one (.v (.int .i64 r))⟩
  | _ => ACall.fail
theorem f_gIndexFunc_int64_a_sound : Sound Tryd.prog 110 c_gIndexFunc_int64_a := by
  refine sound_good f_gIndexFunc_int64_a_ctx f_gIndexFunc_int64_a_LV 2 Tryd.func110 (c := f_gIndexFunc_int64_a_c) (by kernel_rfl) (rv := f_gIndexFunc_int64_a_rv) (by kernel_rfl) (by kernel_rfl) (by kernel_rfl) (by kernel_rfl) fun rs => ?_
  unfold c_gIndexFunc_int64_a
  split
  · rename_i a0; intro v h; exact ⟨rfl, l_gIndexFunc_int64_a v, rfl, (f_gIndexFunc_int64_a_top a0 _).trans (s_gIndexFunc_int64_a_ok a0 v h)⟩
  · intro v h; cases h
def m_gIndexFunc_int64_a : List A → Bool
  | [_, .clo 87 _] => true
  | _ => false

/-! ### function 86: slices.ContainsFunc[[]int64,int64] -/
noncomputable def f_gContainsFunc_int64_a_c : Code := match Tryd.f86.body with | some c => c | none => .skip
noncomputable def f_gContainsFunc_int64_a_X : Ctx := ⟨TT, phiOf [(110, c_gIndexFunc_int64_a)], noPsi, noXi⟩
def f_gContainsFunc_int64_a_LV : List (Nat × Keep) := []
def f_gContainsFunc_int64_a_rv : List ResultVar := [.tmp 4]
noncomputable def f_gContainsFunc_int64_a_L (r : List A) : Nat → AS → Option (List A) := L f_gContainsFunc_int64_a_X (cnOf f_gContainsFunc_int64_a_LV) f_gContainsFunc_int64_a_c (K0 TT f_gContainsFunc_int64_a_rv) r
theorem f_gContainsFunc_int64_a_ctx : CtxOK Tryd.prog f_gContainsFunc_int64_a_X := ctx_of tab mix ⟨⟨Tryd.call110, f_gIndexFunc_int64_a_sound⟩, trivial⟩
noncomputable def s_gContainsFunc_int64_a (a0 : (List Int)) : Option Bool := (Option.bind (s_gIndexFunc_int64_a a0) fun r1 => (some (decide (r1 ≥ 0))))
theorem f_gContainsFunc_int64_a_top (a0 : (List Int)) (r : List A) : ev f_gContainsFunc_int64_a_X (lpc (cnOf f_gContainsFunc_int64_a_LV) (f_gContainsFunc_int64_a_L r)) f_gContainsFunc_int64_a_c (K0 TT f_gContainsFunc_int64_a_rv) (enter [.lst (.one (.i .i64)) a0, .clo 87 []]) = (Option.bind (s_gIndexFunc_int64_a a0) fun r1 => (some [.v (.bool (decide (r1 ≥ 0)))])) := by kernel_rfl
noncomputable def l_gContainsFunc_int64_a (r : Bool) : List A := [.v (.bool r)]
theorem s_gContainsFunc_int64_a_ok (a0 : (List Int)) (v : Bool) (h : s_gContainsFunc_int64_a a0 = some v) : (Option.bind (s_gIndexFunc_int64_a a0) fun r1 => (some [.v (.bool (decide (r1 ≥ 0)))])) = some (l_gContainsFunc_int64_a v) := by
  have e : (Option.bind (s_gIndexFunc_int64_a a0) fun r1 => (some [.v (.bool (decide (r1 ≥ 0)))])) = Option.map l_gContainsFunc_int64_a (s_gContainsFunc_int64_a a0) := by
    unfold s_gContainsFunc_int64_a
    exact (bind_app fun _ => rfl)
  rw [e, h]; rfl
noncomputable def c_gContainsFunc_int64_a : List A → ACall
  | [.lst (.one (.i .i64)) a0, .clo 87 []] => ⟨Bool, s_gContainsFunc_int64_a a0, fun r => .one (.v (.bool r))⟩
  | _ => ACall.fail
theorem f_gContainsFunc_int64_a_sound : Sound Tryd.prog 86 c_gContainsFunc_int64_a := by
  refine sound_good f_gContainsFunc_int64_a_ctx f_gContainsFunc_int64_a_LV 2 Tryd.func86 (c := f_gContainsFunc_int64_a_c) (by kernel_rfl) (rv := f_gContainsFunc_int64_a_rv) (by kernel_rfl) (by kernel_rfl) (by kernel_rfl) (by kernel_rfl) fun rs => ?_
  unfold c_gContainsFunc_int64_a
  split
  · rename_i a0; intro v h; exact ⟨rfl, l_gContainsFunc_int64_a v, rfl, (f_gContainsFunc_int64_a_top a0 _).trans (s_gContainsFunc_int64_a_ok a0 v h)⟩
  · intro v h; cases h
def m_gContainsFunc_int64_a : List A → Bool
  | [_, .clo 87 _] => true
  | _ => false

/-! ### function 47: loop.example/g01322/impl.isWidth -/
noncomputable def f_iisWidth_c : Code := match Tryd.f47.body with | some c => c | none => .skip
noncomputable def f_iisWidth_X : Ctx := ⟨TT, phiOf [(86, c_gContainsFunc_int64_a)], noPsi, noXi⟩
def f_iisWidth_LV : List (Nat × Keep) := []
def f_iisWidth_rv : List ResultVar := [.tmp 2]
noncomputable def f_iisWidth_L (r : List A) : Nat → AS → Option (List A) := L f_iisWidth_X (cnOf f_iisWidth_LV) f_iisWidth_c (K0 TT f_iisWidth_rv) r
theorem f_iisWidth_ctx : CtxOK Tryd.prog f_iisWidth_X := ctx_of tab mix ⟨⟨Tryd.call86, f_gContainsFunc_int64_a_sound⟩, trivial⟩
noncomputable def s_iisWidth (a0 : (List Int)) : Option Bool := (Option.bind (s_gContainsFunc_int64_a a0) fun r1 => (some (!r1)))
theorem f_iisWidth_top (a0 : (List Int)) (r : List A) : ev f_iisWidth_X (lpc (cnOf f_iisWidth_LV) (f_iisWidth_L r)) f_iisWidth_c (K0 TT f_iisWidth_rv) (enter [.lst (.one (.i .i64)) a0]) = (Option.bind (s_gContainsFunc_int64_a a0) fun r1 => (some [.v (.bool (!r1))])) := by kernel_rfl
noncomputable def l_iisWidth (r : Bool) : List A := [.v (.bool r)]
theorem s_iisWidth_ok (a0 : (List Int)) (v : Bool) (h : s_iisWidth a0 = some v) : (Option.bind (s_gContainsFunc_int64_a a0) fun r1 => (some [.v (.bool (!r1))])) = some (l_iisWidth v) := by
  have e : (Option.bind (s_gContainsFunc_int64_a a0) fun r1 => (some [.v (.bool (!r1))])) = Option.map l_iisWidth (s_iisWidth a0) := by
    unfold s_iisWidth
    exact (bind_app fun _ => rfl)
  rw [e, h]; rfl
noncomputable def c_iisWidth : List A → ACall
  | [.lst (.one (.i .i64)) a0] => ⟨Bool, s_iisWidth a0, fun r => .one (.v (.bool r))⟩
  | _ => ACall.fail
theorem f_iisWidth_sound : Sound Tryd.prog 47 c_iisWidth := by
  refine sound_good f_iisWidth_ctx f_iisWidth_LV 1 Tryd.func47 (c := f_iisWidth_c) (by kernel_rfl) (rv := f_iisWidth_rv) (by kernel_rfl) (by kernel_rfl) (by kernel_rfl) (by kernel_rfl) fun rs => ?_
  unfold c_iisWidth
  split
  · rename_i a0; intro v h; exact ⟨rfl, l_iisWidth v, rfl, (f_iisWidth_top a0 _).trans (s_iisWidth_ok a0 v h)⟩
  · intro v h; cases h

/-! ### function 85: loop.example/g01322/impl.ValidRow$1 -/
noncomputable def f_iValidRow_1_c : Code := match Tryd.f85.body with | some c => c | none => .skip
noncomputable def f_iValidRow_1_X : Ctx := ⟨TT, phiOf [(47, c_iisWidth)], noPsi, noXi⟩
def f_iValidRow_1_LV : List (Nat × Keep) := []
def f_iValidRow_1_rv : List ResultVar := [.tmp 2]
noncomputable def f_iValidRow_1_L (r : List A) : Nat → AS → Option (List A) := L f_iValidRow_1_X (cnOf f_iValidRow_1_LV) f_iValidRow_1_c (K0 TT f_iValidRow_1_rv) r
theorem f_iValidRow_1_ctx : CtxOK Tryd.prog f_iValidRow_1_X := ctx_of tab mix ⟨⟨Tryd.call47, f_iisWidth_sound⟩, trivial⟩
noncomputable def s_iValidRow_1 (a0 : Int) : Option Bool := (Option.bind (s_iisWidth [(IntKind.wrap .i64 a0)]) fun r1 => (some (!r1)))
theorem f_iValidRow_1_top (a0 : Int) (r : List A) : ev f_iValidRow_1_X (lpc (cnOf f_iValidRow_1_LV) (f_iValidRow_1_L r)) f_iValidRow_1_c (K0 TT f_iValidRow_1_rv) (enter [.v (.int .i16 a0)]) = (Option.bind (s_iisWidth [(IntKind.wrap .i64 a0)]) fun r1 => (some [.v (.bool (!r1))])) := by kernel_rfl
noncomputable def l_iValidRow_1 (r : Bool) : List A := [.v (.bool r)]
theorem s_iValidRow_1_ok (a0 : Int) (v : Bool) (h : s_iValidRow_1 a0 = some v) : (Option.bind (s_iisWidth [(IntKind.wrap .i64 a0)]) fun r1 => (some [.v (.bool (!r1))])) = some (l_iValidRow_1 v) := by
  have e : (Option.bind (s_iisWidth [(IntKind.wrap .i64 a0)]) fun r1 => (some [.v (.bool (!r1))])) = Option.map l_iValidRow_1 (s_iValidRow_1 a0) := by
    unfold s_iValidRow_1
    exact (bind_app fun _ => rfl)
  rw [e, h]; rfl
noncomputable def c_iValidRow_1 : List A → ACall
  | [.v (.int .i16 a0)] => ⟨Bool, s_iValidRow_1 a0, fun r => .one (.v (.bool r))⟩
  | _ => ACall.fail
theorem f_iValidRow_1_sound : Sound Tryd.prog 85 c_iValidRow_1 := by
  refine sound_good f_iValidRow_1_ctx f_iValidRow_1_LV 1 Tryd.func85 (c := f_iValidRow_1_c) (by kernel_rfl) (rv := f_iValidRow_1_rv) (by kernel_rfl) (by kernel_rfl) (by kernel_rfl) (by kernel_rfl) fun rs => ?_
  unfold c_iValidRow_1
  split
  · rename_i a0; intro v h; exact ⟨rfl, l_iValidRow_1 v, rfl, (f_iValidRow_1_top a0 _).trans (s_iValidRow_1_ok a0 v h)⟩
  · intro v h; cases h

/-! ### function 109: slices.IndexFunc[loop.example/g01322/impl.Row,int16] -/
noncomputable def f_gIndexFunc_int16_a_c : Code := match Tryd.f109.body with | some c => c | none => .skip
noncomputable def f_gIndexFunc_int16_a_X : Ctx := ⟨TT, phiOf [(85, c_iValidRow_1)], noPsi, noXi⟩
def f_gIndexFunc_int16_a_LV : List (Nat × Keep) := [(2, ([0, 1, 7, 8], [], []))]
def f_gIndexFunc_int16_a_rv : List ResultVar := [.tmp 4]
noncomputable def f_gIndexFunc_int16_a_L (r : List A) : Nat → AS → Option (List A) := L f_gIndexFunc_int16_a_X (cnOf f_gIndexFunc_int16_a_LV) f_gIndexFunc_int16_a_c (K0 TT f_gIndexFunc_int16_a_rv) r
theorem f_gIndexFunc_int16_a_ctx : CtxOK Tryd.prog f_gIndexFunc_int16_a_X := ctx_of tab mix ⟨⟨Tryd.call85, f_iValidRow_1_sound⟩, trivial⟩
noncomputable def f_gIndexFunc_int16_a_s2 (x0 : Int) (x1 : Int) (x2 : (List Int)) : AS := ⟨[(0, .a (.sl 0)), (1, .a (.clo 85 [])), (7, .a (.v (.int .i64 x0))), (8, .a (.v (.int .i64 x1)))], [(0, some ⟨false, .arr (.one (.i .i16)) x2⟩)], 1⟩
noncomputable def l_gIndexFunc_int16_a (r : Int) : List A := [.v (.int .i64 r)]
theorem f_gIndexFunc_int16_a_step2 (x0 : Int) (x1 : Int) (x2 : (List Int)) (r : List A) (h : (cond (decide (x1 < x0)) (cond (inB x1 (List.length x2)) (Option.bind (s_iValidRow_1 (List.getD x2 (Int.toNat x1) 0)) fun r1 => (cond r1 (some [.v (.int .i64 x1)]) (f_gIndexFunc_int16_a_L r 2 (f_gIndexFunc_int16_a_s2 x0 (IntKind.wrap .i64 (x1 + 1)) x2)))) none) (some [.v (.int .i64 (-1))])) = some r) : f_gIndexFunc_int16_a_L r 2 (f_gIndexFunc_int16_a_s2 x0 x1 x2) = some r :=
  step_of' h (by kernel_rfl)
noncomputable def f_gIndexFunc_int16_a_n2 (x0 : Int) (x1 : Int) (x2 : (List Int)) : Option ((Int × Int × (List Int)) ⊕ Int) := (cond (decide (x1 < x0)) (cond (inB x1 (List.length x2)) (Option.bind (s_iValidRow_1 (List.getD x2 (Int.toNat x1) 0)) fun r1 => (cond r1 (some (Sum.inr x1)) (some (Sum.inl (x0, (IntKind.wrap .i64 (x1 + 1)), x2))))) none) (some (Sum.inr (-1))))
noncomputable def f_gIndexFunc_int16_a_run2 (x : (Int × Int × (List Int))) : Option Int := iter (fun x => f_gIndexFunc_int16_a_n2 x.1 x.2.1 x.2.2) FU x
noncomputable def f_gIndexFunc_int16_a_G2 (r : List A) (x : (Int × Int × (List Int))) : Prop := f_gIndexFunc_int16_a_L r 2 (f_gIndexFunc_int16_a_s2 x.1 x.2.1 x.2.2) = some r
noncomputable def f_gIndexFunc_int16_a_S2 (r : List A) : Int → Prop := fun v => r = l_gIndexFunc_int16_a v
theorem f_gIndexFunc_int16_a_go2 (r : List A) : ∀ x, sem (f_gIndexFunc_int16_a_S2 r) (f_gIndexFunc_int16_a_run2 x) → f_gIndexFunc_int16_a_G2 r x :=
  fun x => iter_sound (step := fun x => f_gIndexFunc_int16_a_n2 x.1 x.2.1 x.2.2) (fun x h => by
    unfold f_gIndexFunc_int16_a_n2 at h
    exact f_gIndexFunc_int16_a_step2 x.1 x.2.1 x.2.2 r ((sem_cond h (fun h => (sem_cond h (fun h => (sem_bind h fun r1 h => (sem_cond h (fun h => sem_got h fun q => some_eq q) (fun h => sem_got h fun q => q)))) (fun h => sem_none h))) (fun h => sem_got h fun q => some_eq q)))) FU x
noncomputable def s_gIndexFunc_int16_a (a0 : (List Int)) : Option Int := (f_gIndexFunc_int16_a_run2 (((List.length a0 : Nat) : Int), 0, a0))
theorem f_gIndexFunc_int16_a_top (a0 : (List Int)) (r : List A) : ev f_gIndexFunc_int16_a_X (lpc (cnOf f_gIndexFunc_int16_a_LV) (f_gIndexFunc_int16_a_L r)) f_gIndexFunc_int16_a_c (K0 TT f_gIndexFunc_int16_a_rv) (enter [.lst (.one (.i .i16)) a0, .clo 85 []]) = (f_gIndexFunc_int16_a_L r 2 (f_gIndexFunc_int16_a_s2 ((List.length a0 : Nat) : Int) 0 a0)) := by kernel_rfl
theorem s_gIndexFunc_int16_a_ok (a0 : (List Int)) (v : Int) (h : s_gIndexFunc_int16_a a0 = some v) : (f_gIndexFunc_int16_a_L (l_gIndexFunc_int16_a v) 2 (f_gIndexFunc_int16_a_s2 ((List.length a0 : Nat) : Int) 0 a0)) = some (l_gIndexFunc_int16_a v) := by
  unfold s_gIndexFunc_int16_a at h
  have go : ∀ r, sem (fun v => r = l_gIndexFunc_int16_a v) ((f_gIndexFunc_int16_a_run2 (((List.length a0 : Nat) : Int), 0, a0))) → (f_gIndexFunc_int16_a_L r 2 (f_gIndexFunc_int16_a_s2 ((List.length a0 : Nat) : Int) 0 a0)) = some r := fun r h => f_gIndexFunc_int16_a_go2 r _ h
  exact go (l_gIndexFunc_int16_a v) ⟨v, h, rfl⟩
noncomputable def c_gIndexFunc_int16_a : List A → ACall
  | [.lst (.one (.i .i16)) a0, .clo 85 []] => ⟨Int, s_gIndexFunc_int16_a a0, fun r => .one (.v (.int .i64 r))⟩
  | _ => ACall.fail
theorem f_gIndexFunc_int16_a_sound : Sound Tryd.prog 109 c_gIndexFunc_int16_a := by
  refine sound_good f_gIndexFunc_int16_a_ctx f_gIndexFunc_int16_a_LV 2 Tryd.func109 (c := f_gIndexFunc_int16_a_c) (by kernel_rfl) (rv := f_gIndexFunc_int16_a_rv) (by kernel_rfl) (by kernel_rfl) (by kernel_rfl) (by kernel_rfl) fun rs => ?_
  unfold c_gIndexFunc_int16_a
  split
  · rename_i a0; intro v h; exact ⟨rfl, l_gIndexFunc_int16_a v, rfl, (f_gIndexFunc_int16_a_top a0 _).trans (s_gIndexFunc_int16_a_ok a0 v h)⟩
  · intro v h; cases h
def m_gIndexFunc_int16_a : List A → Bool
  | [_, .clo 85 _] => true
  | _ => false

/-! ### function 84: slices.ContainsFunc[loop.example/g01322/impl.Row,int16] -/
noncomputable def f_gContainsFunc_int16_a_c : Code := match Tryd.f84.body with | some c => c | none => .skip
noncomputable def f_gContainsFunc_int16_a_X : Ctx := ⟨TT, phiOf [(109, c_gIndexFunc_int16_a)], noPsi, noXi⟩
def f_gContainsFunc_int16_a_LV : List (Nat × Keep) := []
def f_gContainsFunc_int16_a_rv : List ResultVar := [.tmp 4]
noncomputable def f_gContainsFunc_int16_a_L (r : List A) : Nat → AS → Option (List A) := L f_gContainsFunc_int16_a_X (cnOf f_gContainsFunc_int16_a_LV) f_gContainsFunc_int16_a_c (K0 TT f_gContainsFunc_int16_a_rv) r
theorem f_gContainsFunc_int16_a_ctx : CtxOK Tryd.prog f_gContainsFunc_int16_a_X := ctx_of tab mix ⟨⟨Tryd.call109, f_gIndexFunc_int16_a_sound⟩, trivial⟩
noncomputable def s_gContainsFunc_int16_a (a0 : (List Int)) : Option Bool := (Option.bind (s_gIndexFunc_int16_a a0) fun r1 => (some (decide (r1 ≥ 0))))
theorem f_gContainsFunc_int16_a_top (a0 : (List Int)) (r : List A) : ev f_gContainsFunc_int16_a_X (lpc (cnOf f_gContainsFunc_int16_a_LV) (f_gContainsFunc_int16_a_L r)) f_gContainsFunc_int16_a_c (K0 TT f_gContainsFunc_int16_a_rv) (enter [.lst (.one (.i .i16)) a0, .clo 85 []]) = (Option.bind (s_gIndexFunc_int16_a a0) fun r1 => (some [.v (.bool (decide (r1 ≥ 0)))])) := by kernel_rfl
noncomputable def l_gContainsFunc_int16_a (r : Bool) : List A := [.v (.bool r)]
theorem s_gContainsFunc_int16_a_ok (a0 : (List Int)) (v : Bool) (h : s_gContainsFunc_int16_a a0 = some v) : (Option.bind (s_gIndexFunc_int16_a a0) fun r1 => (some [.v (.bool (decide (r1 ≥ 0)))])) = some (l_gContainsFunc_int16_a v) := by
  have e : (Option.bind (s_gIndexFunc_int16_a a0) fun r1 => (some [.v (.bool (decide (r1 ≥ 0)))])) = Option.map l_gContainsFunc_int16_a (s_gContainsFunc_int16_a a0) := by
    unfold s_gContainsFunc_int16_a
    exact (bind_app fun _ => rfl)
  rw [e, h]; rfl
noncomputable def c_gContainsFunc_int16_a : List A → ACall
  | [.lst (.one (.i .i16)) a0, .clo 85 []] => ⟨Bool, s_gContainsFunc_int16_a a0, fun r => .one (.v (.bool r))⟩
  | _ => ACall.fail
theorem f_gContainsFunc_int16_a_sound : Sound Tryd.prog 84 c_gContainsFunc_int16_a := by
  refine sound_good f_gContainsFunc_int16_a_ctx f_gContainsFunc_int16_a_LV 2 Tryd.func84 (c := f_gContainsFunc_int16_a_c) (by kernel_rfl) (rv := f_gContainsFunc_int16_a_rv) (by kernel_rfl) (by kernel_rfl) (by kernel_rfl) (by kernel_rfl) fun rs => ?_
  unfold c_gContainsFunc_int16_a
  split
  · rename_i a0; intro v h; exact ⟨rfl, l_gContainsFunc_int16_a v, rfl, (f_gContainsFunc_int16_a_top a0 _).trans (s_gContainsFunc_int16_a_ok a0 v h)⟩
  · intro v h; cases h
def m_gContainsFunc_int16_a : List A → Bool
  | [_, .clo 85 _] => true
  | _ => false

/-! ### function 44: loop.example/g01322/impl.ValidRow -/
noncomputable def f_iValidRow_c : Code := match Tryd.f44.body with | some c => c | none => .skip
noncomputable def f_iValidRow_X : Ctx := ⟨TT, phiOf [(84, c_gContainsFunc_int16_a), (54, c_iwithin)], noPsi, noXi⟩
def f_iValidRow_LV : List (Nat × Keep) := []
def f_iValidRow_rv : List ResultVar := [.tmp 2]
noncomputable def f_iValidRow_L (r : List A) : Nat → AS → Option (List A) := L f_iValidRow_X (cnOf f_iValidRow_LV) f_iValidRow_c (K0 TT f_iValidRow_rv) r
theorem f_iValidRow_ctx : CtxOK Tryd.prog f_iValidRow_X := ctx_of tab mix ⟨⟨Tryd.call84, f_gContainsFunc_int16_a_sound⟩, ⟨Tryd.call54, f_iwithin_sound⟩, trivial⟩
noncomputable def s_iValidRow (a0 : (List Int)) : Option Bool := (cond (s_iwithin ((List.length a0 : Nat) : Int) 1 60) (Option.bind (s_gContainsFunc_int16_a a0) fun r1 => (some (!r1))) (some false))
theorem f_iValidRow_top (a0 : (List Int)) (r : List A) : ev f_iValidRow_X (lpc (cnOf f_iValidRow_LV) (f_iValidRow_L r)) f_iValidRow_c (K0 TT f_iValidRow_rv) (enter [.lst (.one (.i .i16)) a0]) = (cond (s_iwithin ((List.length a0 : Nat) : Int) 1 60) (Option.bind (s_gContainsFunc_int16_a a0) fun r1 => (some [.v (.bool (!r1))])) (some [.v (.bool false)])) := by kernel_rfl
noncomputable def l_iValidRow (r : Bool) : List A := [.v (.bool r)]
theorem s_iValidRow_ok (a0 : (List Int)) (v : Bool) (h : s_iValidRow a0 = some v) : (cond (s_iwithin ((List.length a0 : Nat) : Int) 1 60) (Option.bind (s_gContainsFunc_int16_a a0) fun r1 => (some [.v (.bool (!r1))])) (some [.v (.bool false)])) = some (l_iValidRow v) := by
  have e : (cond (s_iwithin ((List.length a0 : Nat) : Int) 1 60) (Option.bind (s_gContainsFunc_int16_a a0) fun r1 => (some [.v (.bool (!r1))])) (some [.v (.bool false)])) = Option.map l_iValidRow (s_iValidRow a0) := by
    unfold s_iValidRow
    exact (cond_app (Option.map l_iValidRow) (bind_app fun _ => rfl) rfl)
  rw [e, h]; rfl
noncomputable def c_iValidRow : List A → ACall
  | [.lst (.one (.i .i16)) a0] => ⟨Bool, s_iValidRow a0, fun r => .one (.v (.bool r))⟩
  | _ => ACall.fail
theorem f_iValidRow_sound : Sound Tryd.prog 44 c_iValidRow := by
  refine sound_good f_iValidRow_ctx f_iValidRow_LV 1 Tryd.func44 (c := f_iValidRow_c) (by kernel_rfl) (rv := f_iValidRow_rv) (by kernel_rfl) (by kernel_rfl) (by kernel_rfl) (by kernel_rfl) fun rs => ?_
  unfold c_iValidRow
  split
  · rename_i a0; intro v h; exact ⟨rfl, l_iValidRow v, rfl, (f_iValidRow_top a0 _).trans (s_iValidRow_ok a0 v h)⟩
  · intro v h; cases h

/-! ### function 7: loop.example/g01322/impl.ReadRow -/
noncomputable def f_iReadRow_c : Code := match Tryd.f7.body with | some c => c | none => .skip
noncomputable def f_iReadRow_X : Ctx := ⟨TT, phiOf [(42, c_stringsSplit), (43, c_ireadDecimal), (44, c_iValidRow)], noPsi, noXi⟩
def f_iReadRow_LV : List (Nat × Keep) := [(3, ([4, 11, 12, 13], [], []))]
def f_iReadRow_rv : List ResultVar := [.tmp 2, .tmp 3]
noncomputable def f_iReadRow_L (r : List A) : Nat → AS → Option (List A) := L f_iReadRow_X (cnOf f_iReadRow_LV) f_iReadRow_c (K0 TT f_iReadRow_rv) r
theorem f_iReadRow_ctx : CtxOK Tryd.prog f_iReadRow_X := ctx_of tab mix ⟨⟨Tryd.call42, f_stringsSplit_sound⟩, ⟨Tryd.call43, f_ireadDecimal_sound⟩, ⟨Tryd.call44, f_iValidRow_sound⟩, trivial⟩
noncomputable def f_iReadRow_s3 (x0 : Int) (x1 : Int) (x2 : (List Int)) (x3 : (List ByteArray)) : AS := ⟨[(4, .a (.sl 0)), (11, .a (.sl 1)), (12, .a (.v (.int .i64 x0))), (13, .a (.v (.int .i64 x1)))], [(0, some ⟨true, .arr (.one (.i .i16)) x2⟩), (1, some ⟨true, .arr (.one .s) x3⟩)], 2⟩
noncomputable def l_iReadRow (r : ((List Int) × Int)) : List A := [.lst (.one (.i .i16)) r.1, .v (.int .i64 r.2)]
theorem f_iReadRow_step3 (x0 : Int) (x1 : Int) (x2 : (List Int)) (x3 : (List ByteArray)) (r : List A) (h : (cond (decide (x1 < x0)) (cond (inB x1 (List.length x3)) (Option.bind (s_ireadDecimal (List.getD x3 (Int.toNat x1) (⟨#[]⟩ : ByteArray)) 1 200) fun r2 => (cond (!r2.2) (some [.lst (.one (.i .i16)) [], .v (.int .i64 5)]) (cond (fits ((List.length (x2 : List Int) + List.length ([(IntKind.wrap .i16 r2.1)] : List Int)) * 2)) (f_iReadRow_L r 3 (f_iReadRow_s3 x0 (IntKind.wrap .i64 (x1 + 1)) (x2 ++ [(IntKind.wrap .i16 r2.1)]) x3)) none))) none) (Option.bind (s_iValidRow x2) fun r3 => (cond (!r3) (some [.lst (.one (.i .i16)) [], .v (.int .i64 5)]) (some [.lst (.one (.i .i16)) x2, .v (.int .i64 0)])))) = some r) : f_iReadRow_L r 3 (f_iReadRow_s3 x0 x1 x2 x3) = some r :=
  step_of' h (by kernel_rfl)
noncomputable def f_iReadRow_n3 (x0 : Int) (x1 : Int) (x2 : (List Int)) (x3 : (List ByteArray)) : Option ((Int × Int × (List Int) × (List ByteArray)) ⊕ ((List Int) × Int)) := (cond (decide (x1 < x0)) (cond (inB x1 (List.length x3)) (Option.bind (s_ireadDecimal (List.getD x3 (Int.toNat x1) (⟨#[]⟩ : ByteArray)) 1 200) fun r2 => (cond (!r2.2) (some (Sum.inr ([], 5))) (cond (fits ((List.length (x2 : List Int) + List.length ([(IntKind.wrap .i16 r2.1)] : List Int)) * 2)) (some (Sum.inl (x0, (IntKind.wrap .i64 (x1 + 1)), (x2 ++ [(IntKind.wrap .i16 r2.1)]), x3))) none))) none) (Option.bind (s_iValidRow x2) fun r3 => (cond (!r3) (some (Sum.inr ([], 5))) (some (Sum.inr (x2, 0))))))
noncomputable def f_iReadRow_run3 (x : (Int × Int × (List Int) × (List ByteArray))) : Option ((List Int) × Int) := iter (fun x => f_iReadRow_n3 x.1 x.2.1 x.2.2.1 x.2.2.2) FU x
noncomputable def f_iReadRow_G3 (r : List A) (x : (Int × Int × (List Int) × (List ByteArray))) : Prop := f_iReadRow_L r 3 (f_iReadRow_s3 x.1 x.2.1 x.2.2.1 x.2.2.2) = some r
noncomputable def f_iReadRow_S3 (r : List A) : ((List Int) × Int) → Prop := fun v => r = l_iReadRow v
theorem f_iReadRow_go3 (r : List A) : ∀ x, sem (f_iReadRow_S3 r) (f_iReadRow_run3 x) → f_iReadRow_G3 r x :=
  fun x => iter_sound (step := fun x => f_iReadRow_n3 x.1 x.2.1 x.2.2.1 x.2.2.2) (fun x h => by
    unfold f_iReadRow_n3 at h
    exact f_iReadRow_step3 x.1 x.2.1 x.2.2.1 x.2.2.2 r ((sem_cond h (fun h => (sem_cond h (fun h => (sem_bind h fun r2 h => (sem_cond h (fun h => sem_got h fun q => some_eq q) (fun h => (sem_cond h (fun h => sem_got h fun q => q) (fun h => sem_none h)))))) (fun h => sem_none h))) (fun h => (sem_bind h fun r3 h => (sem_cond h (fun h => sem_got h fun q => some_eq q) (fun h => sem_got h fun q => some_eq q))))))) FU x
noncomputable def s_iReadRow (a0 : ByteArray) : Option ((List Int) × Int) := (Option.bind (s_stringsSplit a0 (⟨#[44]⟩ : ByteArray)) fun r1 => (f_iReadRow_run3 (((List.length r1 : Nat) : Int), 0, [], r1)))
theorem f_iReadRow_top (a0 : ByteArray) (r : List A) : ev f_iReadRow_X (lpc (cnOf f_iReadRow_LV) (f_iReadRow_L r)) f_iReadRow_c (K0 TT f_iReadRow_rv) (enter [.v (.string a0)]) = (Option.bind (s_stringsSplit a0 (⟨#[44]⟩ : ByteArray)) fun r1 => (f_iReadRow_L r 3 (f_iReadRow_s3 ((List.length r1 : Nat) : Int) 0 [] r1))) := by kernel_rfl
theorem s_iReadRow_ok (a0 : ByteArray) (v : ((List Int) × Int)) (h : s_iReadRow a0 = some v) : (Option.bind (s_stringsSplit a0 (⟨#[44]⟩ : ByteArray)) fun r1 => (f_iReadRow_L (l_iReadRow v) 3 (f_iReadRow_s3 ((List.length r1 : Nat) : Int) 0 [] r1))) = some (l_iReadRow v) := by
  unfold s_iReadRow at h
  have go : ∀ r, sem (fun v => r = l_iReadRow v) ((Option.bind (s_stringsSplit a0 (⟨#[44]⟩ : ByteArray)) fun r1 => (f_iReadRow_run3 (((List.length r1 : Nat) : Int), 0, [], r1)))) → (Option.bind (s_stringsSplit a0 (⟨#[44]⟩ : ByteArray)) fun r1 => (f_iReadRow_L r 3 (f_iReadRow_s3 ((List.length r1 : Nat) : Int) 0 [] r1))) = some r := fun r h => (sem_bind h fun r1 h => f_iReadRow_go3 r _ h)
  exact go (l_iReadRow v) ⟨v, h, rfl⟩
noncomputable def c_iReadRow : List A → ACall
  | [.v (.string a0)] => ⟨((List Int) × Int), s_iReadRow a0, fun r => .tup [.lst (.one (.i .i16)) r.1, .v (.int .i64 r.2)]⟩
  | _ => ACall.fail
theorem f_iReadRow_sound : Sound Tryd.prog 7 c_iReadRow := by
  refine sound_good f_iReadRow_ctx f_iReadRow_LV 1 Tryd.func7 (c := f_iReadRow_c) (by kernel_rfl) (rv := f_iReadRow_rv) (by kernel_rfl) (by kernel_rfl) (by kernel_rfl) (by kernel_rfl) fun rs => ?_
  unfold c_iReadRow
  split
  · rename_i a0; intro v h; exact ⟨rfl, l_iReadRow v, rfl, (f_iReadRow_top a0 _).trans (s_iReadRow_ok a0 v h)⟩
  · intro v h; cases h

/-! ### function 8: loop.example/g01322/laws.eqRow -/
noncomputable def f_weqRow_c : Code := match Tryd.f8.body with | some c => c | none => .skip
noncomputable def f_weqRow_X : Ctx := ⟨TT, phiOf [], noPsi, noXi⟩
def f_weqRow_LV : List (Nat × Keep) := [(4, ([0, 1, 5], [], []))]
def f_weqRow_rv : List ResultVar := [.tmp 4]
noncomputable def f_weqRow_L (r : List A) : Nat → AS → Option (List A) := L f_weqRow_X (cnOf f_weqRow_LV) f_weqRow_c (K0 TT f_weqRow_rv) r
theorem f_weqRow_ctx : CtxOK Tryd.prog f_weqRow_X := ctx_of tab mix trivial
noncomputable def f_weqRow_s4 (x0 : Int) (x1 : (List Int)) (x2 : (List Int)) : AS := ⟨[(0, .a (.sl 0)), (1, .a (.sl 1)), (5, .a (.v (.int .i64 x0)))], [(0, some ⟨false, .arr (.one (.i .i16)) x1⟩), (1, some ⟨false, .arr (.one (.i .i16)) x2⟩)], 2⟩
noncomputable def l_weqRow (r : Bool) : List A := [.v (.bool r)]
theorem f_weqRow_step4 (x0 : Int) (x1 : (List Int)) (x2 : (List Int)) (r : List A) (h : (cond (decide (x0 < ((List.length x1 : Nat) : Int))) (cond (inB x0 (List.length x1)) (cond (inB x0 (List.length x2)) (cond ((List.getD x1 (Int.toNat x0) 0) != (List.getD x2 (Int.toNat x0) 0)) (some [.v (.bool false)]) (f_weqRow_L r 4 (f_weqRow_s4 (IntKind.wrap .i64 (x0 + 1)) x1 x2))) none) none) (some [.v (.bool true)])) = some r) : f_weqRow_L r 4 (f_weqRow_s4 x0 x1 x2) = some r :=
  step_of' h (by kernel_rfl)
noncomputable def f_weqRow_n4 (x0 : Int) (x1 : (List Int)) (x2 : (List Int)) : Option ((Int × (List Int) × (List Int)) ⊕ Bool) := (cond (decide (x0 < ((List.length x1 : Nat) : Int))) (cond (inB x0 (List.length x1)) (cond (inB x0 (List.length x2)) (cond ((List.getD x1 (Int.toNat x0) 0) != (List.getD x2 (Int.toNat x0) 0)) (some (Sum.inr false)) (some (Sum.inl ((IntKind.wrap .i64 (x0 + 1)), x1, x2)))) none) none) (some (Sum.inr true)))
noncomputable def f_weqRow_run4 (x : (Int × (List Int) × (List Int))) : Option Bool := iter (fun x => f_weqRow_n4 x.1 x.2.1 x.2.2) FU x
noncomputable def f_weqRow_G4 (r : List A) (x : (Int × (List Int) × (List Int))) : Prop := f_weqRow_L r 4 (f_weqRow_s4 x.1 x.2.1 x.2.2) = some r
noncomputable def f_weqRow_S4 (r : List A) : Bool → Prop := fun v => r = l_weqRow v
theorem f_weqRow_go4 (r : List A) : ∀ x, sem (f_weqRow_S4 r) (f_weqRow_run4 x) → f_weqRow_G4 r x :=
  fun x => iter_sound (step := fun x => f_weqRow_n4 x.1 x.2.1 x.2.2) (fun x h => by
    unfold f_weqRow_n4 at h
    exact f_weqRow_step4 x.1 x.2.1 x.2.2 r ((sem_cond h (fun h => (sem_cond h (fun h => (sem_cond h (fun h => (sem_cond h (fun h => sem_got h fun q => some_eq q) (fun h => sem_got h fun q => q))) (fun h => sem_none h))) (fun h => sem_none h))) (fun h => sem_got h fun q => some_eq q)))) FU x
noncomputable def s_weqRow (a0 : (List Int)) (a1 : (List Int)) : Option Bool := (cond (((List.length a0 : Nat) : Int) != ((List.length a1 : Nat) : Int)) (some false) (f_weqRow_run4 (0, a0, a1)))
theorem f_weqRow_top (a0 : (List Int)) (a1 : (List Int)) (r : List A) : ev f_weqRow_X (lpc (cnOf f_weqRow_LV) (f_weqRow_L r)) f_weqRow_c (K0 TT f_weqRow_rv) (enter [.lst (.one (.i .i16)) a0, .lst (.one (.i .i16)) a1]) = (cond (((List.length a0 : Nat) : Int) != ((List.length a1 : Nat) : Int)) (some [.v (.bool false)]) (f_weqRow_L r 4 (f_weqRow_s4 0 a0 a1))) := by kernel_rfl
theorem s_weqRow_ok (a0 : (List Int)) (a1 : (List Int)) (v : Bool) (h : s_weqRow a0 a1 = some v) : (cond (((List.length a0 : Nat) : Int) != ((List.length a1 : Nat) : Int)) (some [.v (.bool false)]) (f_weqRow_L (l_weqRow v) 4 (f_weqRow_s4 0 a0 a1))) = some (l_weqRow v) := by
  unfold s_weqRow at h
  have go : ∀ r, sem (fun v => r = l_weqRow v) ((cond (((List.length a0 : Nat) : Int) != ((List.length a1 : Nat) : Int)) (some false) (f_weqRow_run4 (0, a0, a1)))) → (cond (((List.length a0 : Nat) : Int) != ((List.length a1 : Nat) : Int)) (some [.v (.bool false)]) (f_weqRow_L r 4 (f_weqRow_s4 0 a0 a1))) = some r := fun r h => (sem_cond h (fun h => sem_got h fun q => some_eq q) (fun h => f_weqRow_go4 r _ h))
  exact go (l_weqRow v) ⟨v, h, rfl⟩
noncomputable def c_weqRow : List A → ACall
  | [.lst (.one (.i .i16)) a0, .lst (.one (.i .i16)) a1] => ⟨Bool, s_weqRow a0 a1, fun r => .one (.v (.bool r))⟩
  | _ => ACall.fail
theorem f_weqRow_sound : Sound Tryd.prog 8 c_weqRow := by
  refine sound_good f_weqRow_ctx f_weqRow_LV 2 Tryd.func8 (c := f_weqRow_c) (by kernel_rfl) (rv := f_weqRow_rv) (by kernel_rfl) (by kernel_rfl) (by kernel_rfl) (by kernel_rfl) fun rs => ?_
  unfold c_weqRow
  split
  · rename_i a0 a1; intro v h; exact ⟨rfl, l_weqRow v, rfl, (f_weqRow_top a0 a1 _).trans (s_weqRow_ok a0 a1 v h)⟩
  · intro v h; cases h

/-! ### function 10: loop.example/g01322/laws.heldRow -/
noncomputable def f_wheldRow_c : Code := match Tryd.f10.body with | some c => c | none => .skip
noncomputable def f_wheldRow_X : Ctx := ⟨TT, phiOf [], noPsi, noXi⟩
def f_wheldRow_LV : List (Nat × Keep) := [(2, ([0, 1, 5], [], []))]
def f_wheldRow_rv : List ResultVar := [.tmp 4]
noncomputable def f_wheldRow_L (r : List A) : Nat → AS → Option (List A) := L f_wheldRow_X (cnOf f_wheldRow_LV) f_wheldRow_c (K0 TT f_wheldRow_rv) r
theorem f_wheldRow_ctx : CtxOK Tryd.prog f_wheldRow_X := ctx_of tab mix trivial
noncomputable def f_wheldRow_s2 (x0 : Int) (x1 : Int) (x2 : (List Int)) : AS := ⟨[(0, .a (.sl 0)), (1, .a (.v (.int .i64 x0))), (5, .a (.v (.int .i64 x1)))], [(0, some ⟨false, .arr (.one (.i .i16)) x2⟩)], 1⟩
noncomputable def l_wheldRow (r : Int) : List A := [.v (.int .i64 r)]
theorem f_wheldRow_step2 (x0 : Int) (x1 : Int) (x2 : (List Int)) (r : List A) (h : (cond (decide (x1 < ((List.length x2 : Nat) : Int))) (cond (inB x1 (List.length x2)) (cond ((List.getD x2 (Int.toNat x1) 0) != (IntKind.wrap .i16 x0)) (some [.v (.int .i64 (-1))]) (f_wheldRow_L r 2 (f_wheldRow_s2 (IntKind.wrap .i64 (x0 + 1)) (IntKind.wrap .i64 (x1 + 1)) x2))) none) (some [.v (.int .i64 x0)])) = some r) : f_wheldRow_L r 2 (f_wheldRow_s2 x0 x1 x2) = some r :=
  step_of' h (by kernel_rfl)
noncomputable def f_wheldRow_n2 (x0 : Int) (x1 : Int) (x2 : (List Int)) : Option ((Int × Int × (List Int)) ⊕ Int) := (cond (decide (x1 < ((List.length x2 : Nat) : Int))) (cond (inB x1 (List.length x2)) (cond ((List.getD x2 (Int.toNat x1) 0) != (IntKind.wrap .i16 x0)) (some (Sum.inr (-1))) (some (Sum.inl ((IntKind.wrap .i64 (x0 + 1)), (IntKind.wrap .i64 (x1 + 1)), x2)))) none) (some (Sum.inr x0)))
noncomputable def f_wheldRow_run2 (x : (Int × Int × (List Int))) : Option Int := iter (fun x => f_wheldRow_n2 x.1 x.2.1 x.2.2) FU x
noncomputable def f_wheldRow_G2 (r : List A) (x : (Int × Int × (List Int))) : Prop := f_wheldRow_L r 2 (f_wheldRow_s2 x.1 x.2.1 x.2.2) = some r
noncomputable def f_wheldRow_S2 (r : List A) : Int → Prop := fun v => r = l_wheldRow v
theorem f_wheldRow_go2 (r : List A) : ∀ x, sem (f_wheldRow_S2 r) (f_wheldRow_run2 x) → f_wheldRow_G2 r x :=
  fun x => iter_sound (step := fun x => f_wheldRow_n2 x.1 x.2.1 x.2.2) (fun x h => by
    unfold f_wheldRow_n2 at h
    exact f_wheldRow_step2 x.1 x.2.1 x.2.2 r ((sem_cond h (fun h => (sem_cond h (fun h => (sem_cond h (fun h => sem_got h fun q => some_eq q) (fun h => sem_got h fun q => q))) (fun h => sem_none h))) (fun h => sem_got h fun q => some_eq q)))) FU x
noncomputable def s_wheldRow (a0 : (List Int)) (a1 : Int) : Option Int := (f_wheldRow_run2 (a1, 0, a0))
theorem f_wheldRow_top (a0 : (List Int)) (a1 : Int) (r : List A) : ev f_wheldRow_X (lpc (cnOf f_wheldRow_LV) (f_wheldRow_L r)) f_wheldRow_c (K0 TT f_wheldRow_rv) (enter [.lst (.one (.i .i16)) a0, .v (.int .i64 a1)]) = (f_wheldRow_L r 2 (f_wheldRow_s2 a1 0 a0)) := by kernel_rfl
theorem s_wheldRow_ok (a0 : (List Int)) (a1 : Int) (v : Int) (h : s_wheldRow a0 a1 = some v) : (f_wheldRow_L (l_wheldRow v) 2 (f_wheldRow_s2 a1 0 a0)) = some (l_wheldRow v) := by
  unfold s_wheldRow at h
  have go : ∀ r, sem (fun v => r = l_wheldRow v) ((f_wheldRow_run2 (a1, 0, a0))) → (f_wheldRow_L r 2 (f_wheldRow_s2 a1 0 a0)) = some r := fun r h => f_wheldRow_go2 r _ h
  exact go (l_wheldRow v) ⟨v, h, rfl⟩
noncomputable def c_wheldRow : List A → ACall
  | [.lst (.one (.i .i16)) a0, .v (.int .i64 a1)] => ⟨Int, s_wheldRow a0 a1, fun r => .one (.v (.int .i64 r))⟩
  | _ => ACall.fail
theorem f_wheldRow_sound : Sound Tryd.prog 10 c_wheldRow := by
  refine sound_good f_wheldRow_ctx f_wheldRow_LV 2 Tryd.func10 (c := f_wheldRow_c) (by kernel_rfl) (rv := f_wheldRow_rv) (by kernel_rfl) (by kernel_rfl) (by kernel_rfl) (by kernel_rfl) fun rs => ?_
  unfold c_wheldRow
  split
  · rename_i a0 a1; intro v h; exact ⟨rfl, l_wheldRow v, rfl, (f_wheldRow_top a0 a1 _).trans (s_wheldRow_ok a0 a1 v h)⟩
  · intro v h; cases h

/-! ### function 3: loop.example/g01322/laws.FnExactReadRow -/
noncomputable def f_wFnExactReadRow_c : Code := match Tryd.f3.body with | some c => c | none => .skip
noncomputable def f_wFnExactReadRow_X : Ctx := ⟨TT, phiOf [(10, c_wheldRow), (6, c_sReadRow), (7, c_iReadRow), (8, c_weqRow)], (psiOf [(9, u_wmarkRow)]), noXi⟩
def f_wFnExactReadRow_LV : List (Nat × Keep) := []
def f_wFnExactReadRow_rv : List ResultVar := [.tmp 2]
noncomputable def f_wFnExactReadRow_L (r : List A) : Nat → AS → Option (List A) := L f_wFnExactReadRow_X (cnOf f_wFnExactReadRow_LV) f_wFnExactReadRow_c (K0 TT f_wFnExactReadRow_rv) r
theorem f_wFnExactReadRow_ctx : CtxOK Tryd.prog f_wFnExactReadRow_X := ctx_ofH tab mix (l := [(10, c_wheldRow), (6, c_sReadRow), (7, c_iReadRow), (8, c_weqRow)]) ⟨⟨Tryd.call10, f_wheldRow_sound⟩, ⟨Tryd.call6, f_sReadRow_sound⟩, ⟨Tryd.call7, f_iReadRow_sound⟩, ⟨Tryd.call8, f_weqRow_sound⟩, trivial⟩ (psi_ok (l := [(9, u_wmarkRow)]) ⟨⟨Tryd.call9, f_wmarkRow_sound⟩, trivial⟩) xi_no
noncomputable def s_wFnExactReadRow (a0 : ByteArray) : Option Bool := (cond (decide (((a0.size : Nat) : Int) > 1048576)) (some true) (Option.bind (s_sReadRow a0) fun r1 => (Option.bind (s_iReadRow a0) fun r2 => (Option.bind (s_weqRow (r2.1) (r1.1)) fun r3 => (cond (!r3) (some false) (cond (r2.2 != r1.2) (some false) (Option.bind (s_wmarkRow (r2.1) 1) fun r4 => (Option.bind (s_wheldRow (r4.2) 1) fun r5 => (cond (decide (r5 < 0)) (some false) (cond (r5 != r4.1) (some false) (Option.bind (s_iReadRow a0) fun r6 => (Option.bind (s_weqRow (r6.1) (r1.1)) fun r7 => (cond (!r7) (some false) (cond (r6.2 != r1.2) (some false) (Option.bind (s_wheldRow (r4.2) 1) fun r8 => (cond (decide (r8 < 0)) (some false) (cond (r8 != r4.1) (some false) (some true))))))))))))))))))
theorem f_wFnExactReadRow_top (a0 : ByteArray) (r : List A) : ev f_wFnExactReadRow_X (lpc (cnOf f_wFnExactReadRow_LV) (f_wFnExactReadRow_L r)) f_wFnExactReadRow_c (K0 TT f_wFnExactReadRow_rv) (enter [.v (.string a0)]) = (cond (decide (((a0.size : Nat) : Int) > 1048576)) (some [.v (.bool true)]) (Option.bind (s_sReadRow a0) fun r1 => (Option.bind (s_iReadRow a0) fun r2 => (Option.bind (s_weqRow (r2.1) (r1.1)) fun r3 => (cond (!r3) (some [.v (.bool false)]) (cond (r2.2 != r1.2) (some [.v (.bool false)]) (Option.bind (s_wmarkRow (r2.1) 1) fun r4 => (Option.bind (s_wheldRow (r4.2) 1) fun r5 => (cond (decide (r5 < 0)) (some [.v (.bool false)]) (cond (r5 != r4.1) (some [.v (.bool false)]) (Option.bind (s_iReadRow a0) fun r6 => (Option.bind (s_weqRow (r6.1) (r1.1)) fun r7 => (cond (!r7) (some [.v (.bool false)]) (cond (r6.2 != r1.2) (some [.v (.bool false)]) (Option.bind (s_wheldRow (r4.2) 1) fun r8 => (cond (decide (r8 < 0)) (some [.v (.bool false)]) (cond (r8 != r4.1) (some [.v (.bool false)]) (some [.v (.bool true)])))))))))))))))))) := by kernel_rfl
noncomputable def l_wFnExactReadRow (r : Bool) : List A := [.v (.bool r)]
theorem s_wFnExactReadRow_ok (a0 : ByteArray) (v : Bool) (h : s_wFnExactReadRow a0 = some v) : (cond (decide (((a0.size : Nat) : Int) > 1048576)) (some [.v (.bool true)]) (Option.bind (s_sReadRow a0) fun r1 => (Option.bind (s_iReadRow a0) fun r2 => (Option.bind (s_weqRow (r2.1) (r1.1)) fun r3 => (cond (!r3) (some [.v (.bool false)]) (cond (r2.2 != r1.2) (some [.v (.bool false)]) (Option.bind (s_wmarkRow (r2.1) 1) fun r4 => (Option.bind (s_wheldRow (r4.2) 1) fun r5 => (cond (decide (r5 < 0)) (some [.v (.bool false)]) (cond (r5 != r4.1) (some [.v (.bool false)]) (Option.bind (s_iReadRow a0) fun r6 => (Option.bind (s_weqRow (r6.1) (r1.1)) fun r7 => (cond (!r7) (some [.v (.bool false)]) (cond (r6.2 != r1.2) (some [.v (.bool false)]) (Option.bind (s_wheldRow (r4.2) 1) fun r8 => (cond (decide (r8 < 0)) (some [.v (.bool false)]) (cond (r8 != r4.1) (some [.v (.bool false)]) (some [.v (.bool true)])))))))))))))))))) = some (l_wFnExactReadRow v) := by
  have e : (cond (decide (((a0.size : Nat) : Int) > 1048576)) (some [.v (.bool true)]) (Option.bind (s_sReadRow a0) fun r1 => (Option.bind (s_iReadRow a0) fun r2 => (Option.bind (s_weqRow (r2.1) (r1.1)) fun r3 => (cond (!r3) (some [.v (.bool false)]) (cond (r2.2 != r1.2) (some [.v (.bool false)]) (Option.bind (s_wmarkRow (r2.1) 1) fun r4 => (Option.bind (s_wheldRow (r4.2) 1) fun r5 => (cond (decide (r5 < 0)) (some [.v (.bool false)]) (cond (r5 != r4.1) (some [.v (.bool false)]) (Option.bind (s_iReadRow a0) fun r6 => (Option.bind (s_weqRow (r6.1) (r1.1)) fun r7 => (cond (!r7) (some [.v (.bool false)]) (cond (r6.2 != r1.2) (some [.v (.bool false)]) (Option.bind (s_wheldRow (r4.2) 1) fun r8 => (cond (decide (r8 < 0)) (some [.v (.bool false)]) (cond (r8 != r4.1) (some [.v (.bool false)]) (some [.v (.bool true)])))))))))))))))))) = Option.map l_wFnExactReadRow (s_wFnExactReadRow a0) := by
    unfold s_wFnExactReadRow
    exact (cond_app (Option.map l_wFnExactReadRow) rfl (bind_app fun _ => (bind_app fun _ => (bind_app fun _ => (cond_app (Option.map l_wFnExactReadRow) rfl (cond_app (Option.map l_wFnExactReadRow) rfl (bind_app fun _ => (bind_app fun _ => (cond_app (Option.map l_wFnExactReadRow) rfl (cond_app (Option.map l_wFnExactReadRow) rfl (bind_app fun _ => (bind_app fun _ => (cond_app (Option.map l_wFnExactReadRow) rfl (cond_app (Option.map l_wFnExactReadRow) rfl (bind_app fun _ => (cond_app (Option.map l_wFnExactReadRow) rfl (cond_app (Option.map l_wFnExactReadRow) rfl rfl)))))))))))))))))
  rw [e, h]; rfl
noncomputable def c_wFnExactReadRow : List A → ACall
  | [.v (.string a0)] => ⟨Bool, s_wFnExactReadRow a0, fun r => .one (.v (.bool r))⟩
  | _ => ACall.fail
theorem f_wFnExactReadRow_sound : Sound Tryd.prog 3 c_wFnExactReadRow := by
  refine sound_good f_wFnExactReadRow_ctx f_wFnExactReadRow_LV 1 Tryd.func3 (c := f_wFnExactReadRow_c) (by kernel_rfl) (rv := f_wFnExactReadRow_rv) (by kernel_rfl) (by kernel_rfl) (by kernel_rfl) (by kernel_rfl) fun rs => ?_
  unfold c_wFnExactReadRow
  split
  · rename_i a0; intro v h; exact ⟨rfl, l_wFnExactReadRow v, rfl, (f_wFnExactReadRow_top a0 _).trans (s_wFnExactReadRow_ok a0 v h)⟩
  · intro v h; cases h
end Go.RR
