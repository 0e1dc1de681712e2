/- A row as a text: the law. -/
import Derived.Test.YtkohnhkehedflaaDoorVg
set_option linter.unusedVariables false
set_option linter.unusedSimpArgs false
set_option maxRecDepth 100000
namespace Go.RR
open Go Go.Proofs

/-! ### function 13: loop.example/g01322/laws.toRow -/
noncomputable def f_wtoRow_c : Code := match Tryd.f13.body with | some c => c | none => .skip
noncomputable def f_wtoRow_X : Ctx := ⟨TT, phiOf [], noPsi, noXi⟩
def f_wtoRow_LV : List (Nat × Keep) := [(3, ([0, 3, 4], [], []))]
def f_wtoRow_rv : List ResultVar := [.tmp 2]
noncomputable def f_wtoRow_L (r : List A) : Nat → AS → Option (List A) := L f_wtoRow_X (cnOf f_wtoRow_LV) f_wtoRow_c (K0 TT f_wtoRow_rv) r
theorem f_wtoRow_ctx : CtxOK Tryd.prog f_wtoRow_X := ctx_of tab mix trivial
noncomputable def f_wtoRow_s3 (x0 : Int) (x1 : (List Int)) (x2 : (List Int)) : AS := ⟨[(0, .a (.sl 0)), (3, .a (.sl 1)), (4, .a (.v (.int .i64 x0)))], [(0, some ⟨false, .arr (.one (.i .i16)) x1⟩), (1, some ⟨true, .arr (.one (.i .i16)) x2⟩)], 2⟩
noncomputable def l_wtoRow (r : (List Int)) : List A := [.lst (.one (.i .i16)) r]
theorem f_wtoRow_step3 (x0 : Int) (x1 : (List Int)) (x2 : (List Int)) (r : List A) (h : (cond (decide (x0 < ((List.length x1 : Nat) : Int))) (cond (inB x0 (List.length x1)) (cond (inB x0 (List.length x2)) (f_wtoRow_L r 3 (f_wtoRow_s3 (IntKind.wrap .i64 (x0 + 1)) x1 (List.set x2 (Int.toNat x0) (List.getD x1 (Int.toNat x0) 0)))) none) none) (some [.lst (.one (.i .i16)) x2])) = some r) : f_wtoRow_L r 3 (f_wtoRow_s3 x0 x1 x2) = some r :=
  step_of' h (by kernel_rfl)
noncomputable def f_wtoRow_n3 (x0 : Int) (x1 : (List Int)) (x2 : (List Int)) : Option ((Int × (List Int) × (List Int)) ⊕ (List Int)) := (cond (decide (x0 < ((List.length x1 : Nat) : Int))) (cond (inB x0 (List.length x1)) (cond (inB x0 (List.length x2)) (some (Sum.inl ((IntKind.wrap .i64 (x0 + 1)), x1, (List.set x2 (Int.toNat x0) (List.getD x1 (Int.toNat x0) 0))))) none) none) (some (Sum.inr x2)))
noncomputable def f_wtoRow_run3 (x : (Int × (List Int) × (List Int))) : Option (List Int) := iter (fun x => f_wtoRow_n3 x.1 x.2.1 x.2.2) FU x
noncomputable def f_wtoRow_G3 (r : List A) (x : (Int × (List Int) × (List Int))) : Prop := f_wtoRow_L r 3 (f_wtoRow_s3 x.1 x.2.1 x.2.2) = some r
noncomputable def f_wtoRow_S3 (r : List A) : (List Int) → Prop := fun v => r = l_wtoRow v
theorem f_wtoRow_go3 (r : List A) : ∀ x, sem (f_wtoRow_S3 r) (f_wtoRow_run3 x) → f_wtoRow_G3 r x :=
  fun x => iter_sound (step := fun x => f_wtoRow_n3 x.1 x.2.1 x.2.2) (fun x h => by
    unfold f_wtoRow_n3 at h
    exact f_wtoRow_step3 x.1 x.2.1 x.2.2 r ((sem_cond h (fun h => (sem_cond h (fun h => (sem_cond h (fun h => sem_got h fun q => q) (fun h => sem_none h))) (fun h => sem_none h))) (fun h => sem_got h fun q => some_eq q)))) FU x
noncomputable def s_wtoRow (a0 : (List Int)) : Option (List Int) := (cond (decide (0 ≤ ((List.length a0 : Nat) : Int)) && decide (((List.length a0 : Nat) : Int) = ((List.length a0 : Nat) : Int)) && fits ((Int.toNat ((List.length a0 : Nat) : Int)) * 2)) (f_wtoRow_run3 (0, a0, (List.replicate (Int.toNat ((List.length a0 : Nat) : Int)) 0))) none)
theorem f_wtoRow_top (a0 : (List Int)) (r : List A) : ev f_wtoRow_X (lpc (cnOf f_wtoRow_LV) (f_wtoRow_L r)) f_wtoRow_c (K0 TT f_wtoRow_rv) (enter [.lst (.one (.i .i16)) a0]) = (cond (decide (0 ≤ ((List.length a0 : Nat) : Int)) && decide (((List.length a0 : Nat) : Int) = ((List.length a0 : Nat) : Int)) && fits ((Int.toNat ((List.length a0 : Nat) : Int)) * 2)) (f_wtoRow_L r 3 (f_wtoRow_s3 0 a0 (List.replicate (Int.toNat ((List.length a0 : Nat) : Int)) 0))) none) := by kernel_rfl
theorem s_wtoRow_ok (a0 : (List Int)) (v : (List Int)) (h : s_wtoRow a0 = some v) : (cond (decide (0 ≤ ((List.length a0 : Nat) : Int)) && decide (((List.length a0 : Nat) : Int) = ((List.length a0 : Nat) : Int)) && fits ((Int.toNat ((List.length a0 : Nat) : Int)) * 2)) (f_wtoRow_L (l_wtoRow v) 3 (f_wtoRow_s3 0 a0 (List.replicate (Int.toNat ((List.length a0 : Nat) : Int)) 0))) none) = some (l_wtoRow v) := by
  unfold s_wtoRow at h
  have go : ∀ r, sem (fun v => r = l_wtoRow v) ((cond (decide (0 ≤ ((List.length a0 : Nat) : Int)) && decide (((List.length a0 : Nat) : Int) = ((List.length a0 : Nat) : Int)) && fits ((Int.toNat ((List.length a0 : Nat) : Int)) * 2)) (f_wtoRow_run3 (0, a0, (List.replicate (Int.toNat ((List.length a0 : Nat) : Int)) 0))) none)) → (cond (decide (0 ≤ ((List.length a0 : Nat) : Int)) && decide (((List.length a0 : Nat) : Int) = ((List.length a0 : Nat) : Int)) && fits ((Int.toNat ((List.length a0 : Nat) : Int)) * 2)) (f_wtoRow_L r 3 (f_wtoRow_s3 0 a0 (List.replicate (Int.toNat ((List.length a0 : Nat) : Int)) 0))) none) = some r := fun r h => (sem_cond h (fun h => f_wtoRow_go3 r _ h) (fun h => sem_none h))
  exact go (l_wtoRow v) ⟨v, h, rfl⟩
noncomputable def c_wtoRow : List A → ACall
  | [.lst (.one (.i .i16)) a0] => ⟨(List Int), s_wtoRow a0, fun r => .one (.lst (.one (.i .i16)) r)⟩
  | _ => ACall.fail
theorem f_wtoRow_sound : Sound Tryd.prog 13 c_wtoRow := by
  refine sound_good f_wtoRow_ctx f_wtoRow_LV 1 Tryd.func13 (c := f_wtoRow_c) (by kernel_rfl) (rv := f_wtoRow_rv) (by kernel_rfl) (by kernel_rfl) (by kernel_rfl) (by kernel_rfl) fun rs => ?_
  unfold c_wtoRow
  split
  · rename_i a0; intro v h; exact ⟨rfl, l_wtoRow v, rfl, (f_wtoRow_top a0 _).trans (s_wtoRow_ok a0 v h)⟩
  · intro v h; cases h

/-! ### function 27: loop.example/g01322/spec.l05Ok -/
noncomputable def f_sl05Ok_c : Code := match Tryd.f27.body with | some c => c | none => .skip
noncomputable def f_sl05Ok_X : Ctx := ⟨TT, phiOf [(32, c_sl05Width), (42, c_sl00In)], noPsi, noXi⟩
def f_sl05Ok_LV : List (Nat × Keep) := [(4, ([0, 3], [], []))]
def f_sl05Ok_rv : List ResultVar := [.tmp 2]
noncomputable def f_sl05Ok_L (r : List A) : Nat → AS → Option (List A) := L f_sl05Ok_X (cnOf f_sl05Ok_LV) f_sl05Ok_c (K0 TT f_sl05Ok_rv) r
theorem f_sl05Ok_ctx : CtxOK Tryd.prog f_sl05Ok_X := ctx_of tab mix ⟨⟨Tryd.call32, f_sl05Width_sound⟩, ⟨Tryd.call42, f_sl00In_sound⟩, trivial⟩
noncomputable def f_sl05Ok_s4 (x0 : Int) (x1 : (List Int)) : AS := ⟨[(0, .a (.sl 0)), (3, .a (.v (.int .i64 x0)))], [(0, some ⟨false, .arr (.one (.i .i16)) x1⟩)], 1⟩
noncomputable def l_sl05Ok (r : Bool) : List A := [.v (.bool r)]
theorem f_sl05Ok_step4 (x0 : Int) (x1 : (List Int)) (r : List A) (h : (cond (decide (x0 < ((List.length x1 : Nat) : Int))) (cond (inB x0 (List.length x1)) (cond (!(s_sl05Width (IntKind.wrap .i64 (List.getD x1 (Int.toNat x0) 0)))) (some [.v (.bool false)]) (f_sl05Ok_L r 4 (f_sl05Ok_s4 (IntKind.wrap .i64 (x0 + 1)) x1))) none) (some [.v (.bool true)])) = some r) : f_sl05Ok_L r 4 (f_sl05Ok_s4 x0 x1) = some r :=
  step_of' h (by kernel_rfl)
noncomputable def f_sl05Ok_n4 (x0 : Int) (x1 : (List Int)) : Option ((Int × (List Int)) ⊕ Bool) := (cond (decide (x0 < ((List.length x1 : Nat) : Int))) (cond (inB x0 (List.length x1)) (cond (!(s_sl05Width (IntKind.wrap .i64 (List.getD x1 (Int.toNat x0) 0)))) (some (Sum.inr false)) (some (Sum.inl ((IntKind.wrap .i64 (x0 + 1)), x1)))) none) (some (Sum.inr true)))
noncomputable def f_sl05Ok_run4 (x : (Int × (List Int))) : Option Bool := iter (fun x => f_sl05Ok_n4 x.1 x.2) FU x
noncomputable def f_sl05Ok_G4 (r : List A) (x : (Int × (List Int))) : Prop := f_sl05Ok_L r 4 (f_sl05Ok_s4 x.1 x.2) = some r
noncomputable def f_sl05Ok_S4 (r : List A) : Bool → Prop := fun v => r = l_sl05Ok v
theorem f_sl05Ok_go4 (r : List A) : ∀ x, sem (f_sl05Ok_S4 r) (f_sl05Ok_run4 x) → f_sl05Ok_G4 r x :=
  fun x => iter_sound (step := fun x => f_sl05Ok_n4 x.1 x.2) (fun x h => by
    unfold f_sl05Ok_n4 at h
    exact f_sl05Ok_step4 x.1 x.2 r ((sem_cond h (fun h => (sem_cond h (fun h => (sem_cond h (fun h => sem_got h fun q => some_eq q) (fun h => sem_got h fun q => q))) (fun h => sem_none h))) (fun h => sem_got h fun q => some_eq q)))) FU x
noncomputable def s_sl05Ok (a0 : (List Int)) : Option Bool := (cond (!(s_sl00In ((List.length a0 : Nat) : Int) 1 60)) (some false) (f_sl05Ok_run4 (0, a0)))
theorem f_sl05Ok_top (a0 : (List Int)) (r : List A) : ev f_sl05Ok_X (lpc (cnOf f_sl05Ok_LV) (f_sl05Ok_L r)) f_sl05Ok_c (K0 TT f_sl05Ok_rv) (enter [.lst (.one (.i .i16)) a0]) = (cond (!(s_sl00In ((List.length a0 : Nat) : Int) 1 60)) (some [.v (.bool false)]) (f_sl05Ok_L r 4 (f_sl05Ok_s4 0 a0))) := by kernel_rfl
theorem s_sl05Ok_ok (a0 : (List Int)) (v : Bool) (h : s_sl05Ok a0 = some v) : (cond (!(s_sl00In ((List.length a0 : Nat) : Int) 1 60)) (some [.v (.bool false)]) (f_sl05Ok_L (l_sl05Ok v) 4 (f_sl05Ok_s4 0 a0))) = some (l_sl05Ok v) := by
  unfold s_sl05Ok at h
  have go : ∀ r, sem (fun v => r = l_sl05Ok v) ((cond (!(s_sl00In ((List.length a0 : Nat) : Int) 1 60)) (some false) (f_sl05Ok_run4 (0, a0)))) → (cond (!(s_sl00In ((List.length a0 : Nat) : Int) 1 60)) (some [.v (.bool false)]) (f_sl05Ok_L r 4 (f_sl05Ok_s4 0 a0))) = some r := fun r h => (sem_cond h (fun h => sem_got h fun q => some_eq q) (fun h => f_sl05Ok_go4 r _ h))
  exact go (l_sl05Ok v) ⟨v, h, rfl⟩
noncomputable def c_sl05Ok : List A → ACall
  | [.lst (.one (.i .i16)) a0] => ⟨Bool, s_sl05Ok a0, fun r => .one (.v (.bool r))⟩
  | _ => ACall.fail
theorem f_sl05Ok_sound : Sound Tryd.prog 27 c_sl05Ok := by
  refine sound_good f_sl05Ok_ctx f_sl05Ok_LV 1 Tryd.func27 (c := f_sl05Ok_c) (by kernel_rfl) (rv := f_sl05Ok_rv) (by kernel_rfl) (by kernel_rfl) (by kernel_rfl) (by kernel_rfl) fun rs => ?_
  unfold c_sl05Ok
  split
  · rename_i a0; intro v h; exact ⟨rfl, l_sl05Ok v, rfl, (f_sl05Ok_top a0 _).trans (s_sl05Ok_ok a0 v h)⟩
  · intro v h; cases h

/-! ### function 28: loop.example/g01322/spec.l05Text -/
noncomputable def f_sl05Text_c : Code := match Tryd.f28.body with | some c => c | none => .skip
noncomputable def f_sl05Text_X : Ctx := ⟨TT, phiOf [(46, c_sDecimal_z)], noPsi, noXi⟩
def f_sl05Text_LV : List (Nat × Keep) := [(3, ([0, 3, 4], [], []))]
def f_sl05Text_rv : List ResultVar := [.tmp 2]
noncomputable def f_sl05Text_L (r : List A) : Nat → AS → Option (List A) := L f_sl05Text_X (cnOf f_sl05Text_LV) f_sl05Text_c (K0 TT f_sl05Text_rv) r
theorem f_sl05Text_ctx : CtxOK Tryd.prog f_sl05Text_X := ctx_of tab mix ⟨⟨Tryd.call46, f_sDecimal_z_sound⟩, trivial⟩
noncomputable def f_sl05Text_s3 (x0 : ByteArray) (x1 : Int) (x2 : (List Int)) : AS := ⟨[(0, .a (.sl 0)), (3, .a (.v (.string x0))), (4, .a (.v (.int .i64 x1)))], [(0, some ⟨false, .arr (.one (.i .i16)) x2⟩)], 1⟩
noncomputable def l_sl05Text (r : ByteArray) : List A := [.v (.string r)]
theorem f_sl05Text_step3 (x0 : ByteArray) (x1 : Int) (x2 : (List Int)) (r : List A) (h : (cond (decide (x1 < ((List.length x2 : Nat) : Int))) (cond (inB x1 (List.length x2)) (Option.bind (s_sDecimal_z (IntKind.wrap .i64 (List.getD x2 (Int.toNat x1) 0))) fun r2 => (cond (fits ((⟨#[44]⟩ : ByteArray).size + r2.size)) (cond (fits (x0.size + ((⟨#[44]⟩ : ByteArray) ++ r2).size)) (f_sl05Text_L r 3 (f_sl05Text_s3 (x0 ++ ((⟨#[44]⟩ : ByteArray) ++ r2)) (IntKind.wrap .i64 (x1 + 1)) x2)) none) none)) none) (some [.v (.string x0)])) = some r) : f_sl05Text_L r 3 (f_sl05Text_s3 x0 x1 x2) = some r :=
  step_of' h (by kernel_rfl)
noncomputable def f_sl05Text_n3 (x0 : ByteArray) (x1 : Int) (x2 : (List Int)) : Option ((ByteArray × Int × (List Int)) ⊕ ByteArray) := (cond (decide (x1 < ((List.length x2 : Nat) : Int))) (cond (inB x1 (List.length x2)) (Option.bind (s_sDecimal_z (IntKind.wrap .i64 (List.getD x2 (Int.toNat x1) 0))) fun r2 => (cond (fits ((⟨#[44]⟩ : ByteArray).size + r2.size)) (cond (fits (x0.size + ((⟨#[44]⟩ : ByteArray) ++ r2).size)) (some (Sum.inl ((x0 ++ ((⟨#[44]⟩ : ByteArray) ++ r2)), (IntKind.wrap .i64 (x1 + 1)), x2))) none) none)) none) (some (Sum.inr x0)))
noncomputable def f_sl05Text_run3 (x : (ByteArray × Int × (List Int))) : Option ByteArray := iter (fun x => f_sl05Text_n3 x.1 x.2.1 x.2.2) FU x
noncomputable def f_sl05Text_G3 (r : List A) (x : (ByteArray × Int × (List Int))) : Prop := f_sl05Text_L r 3 (f_sl05Text_s3 x.1 x.2.1 x.2.2) = some r
noncomputable def f_sl05Text_S3 (r : List A) : ByteArray → Prop := fun v => r = l_sl05Text v
theorem f_sl05Text_go3 (r : List A) : ∀ x, sem (f_sl05Text_S3 r) (f_sl05Text_run3 x) → f_sl05Text_G3 r x :=
  fun x => iter_sound (step := fun x => f_sl05Text_n3 x.1 x.2.1 x.2.2) (fun x h => by
    unfold f_sl05Text_n3 at h
    exact f_sl05Text_step3 x.1 x.2.1 x.2.2 r ((sem_cond h (fun h => (sem_cond h (fun h => (sem_bind h fun r2 h => (sem_cond h (fun h => (sem_cond h (fun h => sem_got h fun q => q) (fun h => sem_none h))) (fun h => sem_none h)))) (fun h => sem_none h))) (fun h => sem_got h fun q => some_eq q)))) FU x
noncomputable def s_sl05Text (a0 : (List Int)) : Option ByteArray := (cond (inB 0 (List.length a0)) (Option.bind (s_sDecimal_z (IntKind.wrap .i64 (List.getD a0 0 0))) fun r1 => (f_sl05Text_run3 (r1, 1, a0))) none)
theorem f_sl05Text_top (a0 : (List Int)) (r : List A) : ev f_sl05Text_X (lpc (cnOf f_sl05Text_LV) (f_sl05Text_L r)) f_sl05Text_c (K0 TT f_sl05Text_rv) (enter [.lst (.one (.i .i16)) a0]) = (cond (inB 0 (List.length a0)) (Option.bind (s_sDecimal_z (IntKind.wrap .i64 (List.getD a0 0 0))) fun r1 => (f_sl05Text_L r 3 (f_sl05Text_s3 r1 1 a0))) none) := by kernel_rfl
theorem s_sl05Text_ok (a0 : (List Int)) (v : ByteArray) (h : s_sl05Text a0 = some v) : (cond (inB 0 (List.length a0)) (Option.bind (s_sDecimal_z (IntKind.wrap .i64 (List.getD a0 0 0))) fun r1 => (f_sl05Text_L (l_sl05Text v) 3 (f_sl05Text_s3 r1 1 a0))) none) = some (l_sl05Text v) := by
  unfold s_sl05Text at h
  have go : ∀ r, sem (fun v => r = l_sl05Text v) ((cond (inB 0 (List.length a0)) (Option.bind (s_sDecimal_z (IntKind.wrap .i64 (List.getD a0 0 0))) fun r1 => (f_sl05Text_run3 (r1, 1, a0))) none)) → (cond (inB 0 (List.length a0)) (Option.bind (s_sDecimal_z (IntKind.wrap .i64 (List.getD a0 0 0))) fun r1 => (f_sl05Text_L r 3 (f_sl05Text_s3 r1 1 a0))) none) = some r := fun r h => (sem_cond h (fun h => (sem_bind h fun r1 h => f_sl05Text_go3 r _ h)) (fun h => sem_none h))
  exact go (l_sl05Text v) ⟨v, h, rfl⟩
noncomputable def c_sl05Text : List A → ACall
  | [.lst (.one (.i .i16)) a0] => ⟨ByteArray, s_sl05Text a0, fun r => .one (.v (.string r))⟩
  | _ => ACall.fail
theorem f_sl05Text_sound : Sound Tryd.prog 28 c_sl05Text := by
  refine sound_good f_sl05Text_ctx f_sl05Text_LV 1 Tryd.func28 (c := f_sl05Text_c) (by kernel_rfl) (rv := f_sl05Text_rv) (by kernel_rfl) (by kernel_rfl) (by kernel_rfl) (by kernel_rfl) fun rs => ?_
  unfold c_sl05Text
  split
  · rename_i a0; intro v h; exact ⟨rfl, l_sl05Text v, rfl, (f_sl05Text_top a0 _).trans (s_sl05Text_ok a0 v h)⟩
  · intro v h; cases h

/-! ### function 12: loop.example/g01322/spec.RowText -/
noncomputable def f_sRowText_c : Code := match Tryd.f12.body with | some c => c | none => .skip
noncomputable def f_sRowText_X : Ctx := ⟨TT, phiOf [(27, c_sl05Ok), (28, c_sl05Text)], noPsi, noXi⟩
def f_sRowText_LV : List (Nat × Keep) := []
def f_sRowText_rv : List ResultVar := [.tmp 2]
noncomputable def f_sRowText_L (r : List A) : Nat → AS → Option (List A) := L f_sRowText_X (cnOf f_sRowText_LV) f_sRowText_c (K0 TT f_sRowText_rv) r
theorem f_sRowText_ctx : CtxOK Tryd.prog f_sRowText_X := ctx_of tab mix ⟨⟨Tryd.call27, f_sl05Ok_sound⟩, ⟨Tryd.call28, f_sl05Text_sound⟩, trivial⟩
noncomputable def s_sRowText (a0 : (List Int)) : Option ByteArray := (Option.bind (s_sl05Ok a0) fun r1 => (cond (!r1) (some (⟨#[]⟩ : ByteArray)) (Option.bind (s_sl05Text a0) fun r2 => (some r2))))
theorem f_sRowText_top (a0 : (List Int)) (r : List A) : ev f_sRowText_X (lpc (cnOf f_sRowText_LV) (f_sRowText_L r)) f_sRowText_c (K0 TT f_sRowText_rv) (enter [.lst (.one (.i .i16)) a0]) = (Option.bind (s_sl05Ok a0) fun r1 => (cond (!r1) (some [.v (.string (⟨#[]⟩ : ByteArray))]) (Option.bind (s_sl05Text a0) fun r2 => (some [.v (.string r2)])))) := by kernel_rfl
noncomputable def l_sRowText (r : ByteArray) : List A := [.v (.string r)]
theorem s_sRowText_ok (a0 : (List Int)) (v : ByteArray) (h : s_sRowText a0 = some v) : (Option.bind (s_sl05Ok a0) fun r1 => (cond (!r1) (some [.v (.string (⟨#[]⟩ : ByteArray))]) (Option.bind (s_sl05Text a0) fun r2 => (some [.v (.string r2)])))) = some (l_sRowText v) := by
  have e : (Option.bind (s_sl05Ok a0) fun r1 => (cond (!r1) (some [.v (.string (⟨#[]⟩ : ByteArray))]) (Option.bind (s_sl05Text a0) fun r2 => (some [.v (.string r2)])))) = Option.map l_sRowText (s_sRowText a0) := by
    unfold s_sRowText
    exact (bind_app fun _ => (cond_app (Option.map l_sRowText) rfl (bind_app fun _ => rfl)))
  rw [e, h]; rfl
noncomputable def c_sRowText : List A → ACall
  | [.lst (.one (.i .i16)) a0] => ⟨ByteArray, s_sRowText a0, fun r => .one (.v (.string r))⟩
  | _ => ACall.fail
theorem f_sRowText_sound : Sound Tryd.prog 12 c_sRowText := by
  refine sound_good f_sRowText_ctx f_sRowText_LV 1 Tryd.func12 (c := f_sRowText_c) (by kernel_rfl) (rv := f_sRowText_rv) (by kernel_rfl) (by kernel_rfl) (by kernel_rfl) (by kernel_rfl) fun rs => ?_
  unfold c_sRowText
  split
  · rename_i a0; intro v h; exact ⟨rfl, l_sRowText v, rfl, (f_sRowText_top a0 _).trans (s_sRowText_ok a0 v h)⟩
  · intro v h; cases h

/-! ### function 49: loop.example/g01322/impl.ValidRow$1 -/
noncomputable def f_iValidRow_1_c : Code := match Tryd.f49.body with | some c => c | none => .skip
noncomputable def f_iValidRow_1_X : Ctx := ⟨TT, phiOf [(33, c_iisWidth)], noPsi, noXi⟩
def f_iValidRow_1_LV : List (Nat × Keep) := []
def f_iValidRow_1_rv : List ResultVar := [.tmp 2]
noncomputable def f_iValidRow_1_L (r : List A) : Nat → AS → Option (List A) := L f_iValidRow_1_X (cnOf f_iValidRow_1_LV) f_iValidRow_1_c (K0 TT f_iValidRow_1_rv) r
theorem f_iValidRow_1_ctx : CtxOK Tryd.prog f_iValidRow_1_X := ctx_of tab mix ⟨⟨Tryd.call33, f_iisWidth_sound⟩, trivial⟩
noncomputable def s_iValidRow_1 (a0 : Int) : Option Bool := (Option.bind (s_iisWidth [(IntKind.wrap .i64 a0)]) fun r1 => (some (!r1)))
theorem f_iValidRow_1_top (a0 : Int) (r : List A) : ev f_iValidRow_1_X (lpc (cnOf f_iValidRow_1_LV) (f_iValidRow_1_L r)) f_iValidRow_1_c (K0 TT f_iValidRow_1_rv) (enter [.v (.int .i16 a0)]) = (Option.bind (s_iisWidth [(IntKind.wrap .i64 a0)]) fun r1 => (some [.v (.bool (!r1))])) := by kernel_rfl
noncomputable def l_iValidRow_1 (r : Bool) : List A := [.v (.bool r)]
theorem s_iValidRow_1_ok (a0 : Int) (v : Bool) (h : s_iValidRow_1 a0 = some v) : (Option.bind (s_iisWidth [(IntKind.wrap .i64 a0)]) fun r1 => (some [.v (.bool (!r1))])) = some (l_iValidRow_1 v) := by
  have e : (Option.bind (s_iisWidth [(IntKind.wrap .i64 a0)]) fun r1 => (some [.v (.bool (!r1))])) = Option.map l_iValidRow_1 (s_iValidRow_1 a0) := by
    unfold s_iValidRow_1
    exact (bind_app fun _ => rfl)
  rw [e, h]; rfl
noncomputable def c_iValidRow_1 : List A → ACall
  | [.v (.int .i16 a0)] => ⟨Bool, s_iValidRow_1 a0, fun r => .one (.v (.bool r))⟩
  | _ => ACall.fail
theorem f_iValidRow_1_sound : Sound Tryd.prog 49 c_iValidRow_1 := by
  refine sound_good f_iValidRow_1_ctx f_iValidRow_1_LV 1 Tryd.func49 (c := f_iValidRow_1_c) (by kernel_rfl) (rv := f_iValidRow_1_rv) (by kernel_rfl) (by kernel_rfl) (by kernel_rfl) (by kernel_rfl) fun rs => ?_
  unfold c_iValidRow_1
  split
  · rename_i a0; intro v h; exact ⟨rfl, l_iValidRow_1 v, rfl, (f_iValidRow_1_top a0 _).trans (s_iValidRow_1_ok a0 v h)⟩
  · intro v h; cases h

/-! ### function 70: slices.IndexFunc[loop.example/g01322/impl.Row,int16] -/
noncomputable def f_gIndexFunc_int16_b_c : Code := match Tryd.f70.body with | some c => c | none => .skip
noncomputable def f_gIndexFunc_int16_b_X : Ctx := ⟨TT, phiOf [(49, c_iValidRow_1)], noPsi, noXi⟩
def f_gIndexFunc_int16_b_LV : List (Nat × Keep) := [(2, ([0, 1, 7, 8], [], []))]
def f_gIndexFunc_int16_b_rv : List ResultVar := [.tmp 4]
noncomputable def f_gIndexFunc_int16_b_L (r : List A) : Nat → AS → Option (List A) := L f_gIndexFunc_int16_b_X (cnOf f_gIndexFunc_int16_b_LV) f_gIndexFunc_int16_b_c (K0 TT f_gIndexFunc_int16_b_rv) r
theorem f_gIndexFunc_int16_b_ctx : CtxOK Tryd.prog f_gIndexFunc_int16_b_X := ctx_of tab mix ⟨⟨Tryd.call49, f_iValidRow_1_sound⟩, trivial⟩
noncomputable def f_gIndexFunc_int16_b_s2 (x0 : Int) (x1 : Int) (x2 : (List Int)) : AS := ⟨[(0, .a (.sl 0)), (1, .a (.clo 49 [])), (7, .a (.v (.int .i64 x0))), (8, .a (.v (.int .i64 x1)))], [(0, some ⟨false, .arr (.one (.i .i16)) x2⟩)], 1⟩
noncomputable def l_gIndexFunc_int16_b (r : Int) : List A := [.v (.int .i64 r)]
theorem f_gIndexFunc_int16_b_step2 (x0 : Int) (x1 : Int) (x2 : (List Int)) (r : List A) (h : (cond (decide (x1 < x0)) (cond (inB x1 (List.length x2)) (Option.bind (s_iValidRow_1 (List.getD x2 (Int.toNat x1) 0)) fun r1 => (cond r1 (some [.v (.int .i64 x1)]) (f_gIndexFunc_int16_b_L r 2 (f_gIndexFunc_int16_b_s2 x0 (IntKind.wrap .i64 (x1 + 1)) x2)))) none) (some [.v (.int .i64 (-1))])) = some r) : f_gIndexFunc_int16_b_L r 2 (f_gIndexFunc_int16_b_s2 x0 x1 x2) = some r :=
  step_of' h (by kernel_rfl)
noncomputable def f_gIndexFunc_int16_b_n2 (x0 : Int) (x1 : Int) (x2 : (List Int)) : Option ((Int × Int × (List Int)) ⊕ Int) := (cond (decide (x1 < x0)) (cond (inB x1 (List.length x2)) (Option.bind (s_iValidRow_1 (List.getD x2 (Int.toNat x1) 0)) fun r1 => (cond r1 (some (Sum.inr x1)) (some (Sum.inl (x0, (IntKind.wrap .i64 (x1 + 1)), x2))))) none) (some (Sum.inr (-1))))
noncomputable def f_gIndexFunc_int16_b_run2 (x : (Int × Int × (List Int))) : Option Int := iter (fun x => f_gIndexFunc_int16_b_n2 x.1 x.2.1 x.2.2) FU x
noncomputable def f_gIndexFunc_int16_b_G2 (r : List A) (x : (Int × Int × (List Int))) : Prop := f_gIndexFunc_int16_b_L r 2 (f_gIndexFunc_int16_b_s2 x.1 x.2.1 x.2.2) = some r
noncomputable def f_gIndexFunc_int16_b_S2 (r : List A) : Int → Prop := fun v => r = l_gIndexFunc_int16_b v
theorem f_gIndexFunc_int16_b_go2 (r : List A) : ∀ x, sem (f_gIndexFunc_int16_b_S2 r) (f_gIndexFunc_int16_b_run2 x) → f_gIndexFunc_int16_b_G2 r x :=
  fun x => iter_sound (step := fun x => f_gIndexFunc_int16_b_n2 x.1 x.2.1 x.2.2) (fun x h => by
    unfold f_gIndexFunc_int16_b_n2 at h
    exact f_gIndexFunc_int16_b_step2 x.1 x.2.1 x.2.2 r ((sem_cond h (fun h => (sem_cond h (fun h => (sem_bind h fun r1 h => (sem_cond h (fun h => sem_got h fun q => some_eq q) (fun h => sem_got h fun q => q)))) (fun h => sem_none h))) (fun h => sem_got h fun q => some_eq q)))) FU x
noncomputable def s_gIndexFunc_int16_b (a0 : (List Int)) : Option Int := (f_gIndexFunc_int16_b_run2 (((List.length a0 : Nat) : Int), 0, a0))
theorem f_gIndexFunc_int16_b_top (a0 : (List Int)) (r : List A) : ev f_gIndexFunc_int16_b_X (lpc (cnOf f_gIndexFunc_int16_b_LV) (f_gIndexFunc_int16_b_L r)) f_gIndexFunc_int16_b_c (K0 TT f_gIndexFunc_int16_b_rv) (enter [.lst (.one (.i .i16)) a0, .clo 49 []]) = (f_gIndexFunc_int16_b_L r 2 (f_gIndexFunc_int16_b_s2 ((List.length a0 : Nat) : Int) 0 a0)) := by kernel_rfl
theorem s_gIndexFunc_int16_b_ok (a0 : (List Int)) (v : Int) (h : s_gIndexFunc_int16_b a0 = some v) : (f_gIndexFunc_int16_b_L (l_gIndexFunc_int16_b v) 2 (f_gIndexFunc_int16_b_s2 ((List.length a0 : Nat) : Int) 0 a0)) = some (l_gIndexFunc_int16_b v) := by
  unfold s_gIndexFunc_int16_b at h
  have go : ∀ r, sem (fun v => r = l_gIndexFunc_int16_b v) ((f_gIndexFunc_int16_b_run2 (((List.length a0 : Nat) : Int), 0, a0))) → (f_gIndexFunc_int16_b_L r 2 (f_gIndexFunc_int16_b_s2 ((List.length a0 : Nat) : Int) 0 a0)) = some r := fun r h => f_gIndexFunc_int16_b_go2 r _ h
  exact go (l_gIndexFunc_int16_b v) ⟨v, h, rfl⟩
noncomputable def c_gIndexFunc_int16_b : List A → ACall
  | [.lst (.one (.i .i16)) a0, .clo 49 []] => ⟨Int, s_gIndexFunc_int16_b a0, fun r => .one (.v (.int .i64 r))⟩
  | _ => ACall.fail
theorem f_gIndexFunc_int16_b_sound : Sound Tryd.prog 70 c_gIndexFunc_int16_b := by
  refine sound_good f_gIndexFunc_int16_b_ctx f_gIndexFunc_int16_b_LV 2 Tryd.func70 (c := f_gIndexFunc_int16_b_c) (by kernel_rfl) (rv := f_gIndexFunc_int16_b_rv) (by kernel_rfl) (by kernel_rfl) (by kernel_rfl) (by kernel_rfl) fun rs => ?_
  unfold c_gIndexFunc_int16_b
  split
  · rename_i a0; intro v h; exact ⟨rfl, l_gIndexFunc_int16_b v, rfl, (f_gIndexFunc_int16_b_top a0 _).trans (s_gIndexFunc_int16_b_ok a0 v h)⟩
  · intro v h; cases h
def m_gIndexFunc_int16_b : List A → Bool
  | [_, .clo 49 _] => true
  | _ => false

/-! ### function 48: slices.ContainsFunc[loop.example/g01322/impl.Row,int16] -/
noncomputable def f_gContainsFunc_int16_b_c : Code := match Tryd.f48.body with | some c => c | none => .skip
noncomputable def f_gContainsFunc_int16_b_X : Ctx := ⟨TT, phiOf [(70, c_gIndexFunc_int16_b)], noPsi, noXi⟩
def f_gContainsFunc_int16_b_LV : List (Nat × Keep) := []
def f_gContainsFunc_int16_b_rv : List ResultVar := [.tmp 4]
noncomputable def f_gContainsFunc_int16_b_L (r : List A) : Nat → AS → Option (List A) := L f_gContainsFunc_int16_b_X (cnOf f_gContainsFunc_int16_b_LV) f_gContainsFunc_int16_b_c (K0 TT f_gContainsFunc_int16_b_rv) r
theorem f_gContainsFunc_int16_b_ctx : CtxOK Tryd.prog f_gContainsFunc_int16_b_X := ctx_of tab mix ⟨⟨Tryd.call70, f_gIndexFunc_int16_b_sound⟩, trivial⟩
noncomputable def s_gContainsFunc_int16_b (a0 : (List Int)) : Option Bool := (Option.bind (s_gIndexFunc_int16_b a0) fun r1 => (some (decide (r1 ≥ 0))))
theorem f_gContainsFunc_int16_b_top (a0 : (List Int)) (r : List A) : ev f_gContainsFunc_int16_b_X (lpc (cnOf f_gContainsFunc_int16_b_LV) (f_gContainsFunc_int16_b_L r)) f_gContainsFunc_int16_b_c (K0 TT f_gContainsFunc_int16_b_rv) (enter [.lst (.one (.i .i16)) a0, .clo 49 []]) = (Option.bind (s_gIndexFunc_int16_b a0) fun r1 => (some [.v (.bool (decide (r1 ≥ 0)))])) := by kernel_rfl
noncomputable def l_gContainsFunc_int16_b (r : Bool) : List A := [.v (.bool r)]
theorem s_gContainsFunc_int16_b_ok (a0 : (List Int)) (v : Bool) (h : s_gContainsFunc_int16_b a0 = some v) : (Option.bind (s_gIndexFunc_int16_b a0) fun r1 => (some [.v (.bool (decide (r1 ≥ 0)))])) = some (l_gContainsFunc_int16_b v) := by
  have e : (Option.bind (s_gIndexFunc_int16_b a0) fun r1 => (some [.v (.bool (decide (r1 ≥ 0)))])) = Option.map l_gContainsFunc_int16_b (s_gContainsFunc_int16_b a0) := by
    unfold s_gContainsFunc_int16_b
    exact (bind_app fun _ => rfl)
  rw [e, h]; rfl
noncomputable def c_gContainsFunc_int16_b : List A → ACall
  | [.lst (.one (.i .i16)) a0, .clo 49 []] => ⟨Bool, s_gContainsFunc_int16_b a0, fun r => .one (.v (.bool r))⟩
  | _ => ACall.fail
theorem f_gContainsFunc_int16_b_sound : Sound Tryd.prog 48 c_gContainsFunc_int16_b := by
  refine sound_good f_gContainsFunc_int16_b_ctx f_gContainsFunc_int16_b_LV 2 Tryd.func48 (c := f_gContainsFunc_int16_b_c) (by kernel_rfl) (rv := f_gContainsFunc_int16_b_rv) (by kernel_rfl) (by kernel_rfl) (by kernel_rfl) (by kernel_rfl) fun rs => ?_
  unfold c_gContainsFunc_int16_b
  split
  · rename_i a0; intro v h; exact ⟨rfl, l_gContainsFunc_int16_b v, rfl, (f_gContainsFunc_int16_b_top a0 _).trans (s_gContainsFunc_int16_b_ok a0 v h)⟩
  · intro v h; cases h
def m_gContainsFunc_int16_b : List A → Bool
  | [_, .clo 49 _] => true
  | _ => false

/-! ### function 29: loop.example/g01322/impl.ValidRow -/
noncomputable def f_iValidRow_c : Code := match Tryd.f29.body with | some c => c | none => .skip
noncomputable def f_iValidRow_X : Ctx := ⟨TT, phiOf [(48, c_gContainsFunc_int16_b), (47, c_iwithin)], noPsi, noXi⟩
def f_iValidRow_LV : List (Nat × Keep) := []
def f_iValidRow_rv : List ResultVar := [.tmp 2]
noncomputable def f_iValidRow_L (r : List A) : Nat → AS → Option (List A) := L f_iValidRow_X (cnOf f_iValidRow_LV) f_iValidRow_c (K0 TT f_iValidRow_rv) r
theorem f_iValidRow_ctx : CtxOK Tryd.prog f_iValidRow_X := ctx_of tab mix ⟨⟨Tryd.call48, f_gContainsFunc_int16_b_sound⟩, ⟨Tryd.call47, f_iwithin_sound⟩, trivial⟩
noncomputable def s_iValidRow (a0 : (List Int)) : Option Bool := (cond (s_iwithin ((List.length a0 : Nat) : Int) 1 60) (Option.bind (s_gContainsFunc_int16_b a0) fun r1 => (some (!r1))) (some false))
theorem f_iValidRow_top (a0 : (List Int)) (r : List A) : ev f_iValidRow_X (lpc (cnOf f_iValidRow_LV) (f_iValidRow_L r)) f_iValidRow_c (K0 TT f_iValidRow_rv) (enter [.lst (.one (.i .i16)) a0]) = (cond (s_iwithin ((List.length a0 : Nat) : Int) 1 60) (Option.bind (s_gContainsFunc_int16_b a0) fun r1 => (some [.v (.bool (!r1))])) (some [.v (.bool false)])) := by kernel_rfl
noncomputable def l_iValidRow (r : Bool) : List A := [.v (.bool r)]
theorem s_iValidRow_ok (a0 : (List Int)) (v : Bool) (h : s_iValidRow a0 = some v) : (cond (s_iwithin ((List.length a0 : Nat) : Int) 1 60) (Option.bind (s_gContainsFunc_int16_b a0) fun r1 => (some [.v (.bool (!r1))])) (some [.v (.bool false)])) = some (l_iValidRow v) := by
  have e : (cond (s_iwithin ((List.length a0 : Nat) : Int) 1 60) (Option.bind (s_gContainsFunc_int16_b a0) fun r1 => (some [.v (.bool (!r1))])) (some [.v (.bool false)])) = Option.map l_iValidRow (s_iValidRow a0) := by
    unfold s_iValidRow
    exact (cond_app (Option.map l_iValidRow) (bind_app fun _ => rfl) rfl)
  rw [e, h]; rfl
noncomputable def c_iValidRow : List A → ACall
  | [.lst (.one (.i .i16)) a0] => ⟨Bool, s_iValidRow a0, fun r => .one (.v (.bool r))⟩
  | _ => ACall.fail
theorem f_iValidRow_sound : Sound Tryd.prog 29 c_iValidRow := by
  refine sound_good f_iValidRow_ctx f_iValidRow_LV 1 Tryd.func29 (c := f_iValidRow_c) (by kernel_rfl) (rv := f_iValidRow_rv) (by kernel_rfl) (by kernel_rfl) (by kernel_rfl) (by kernel_rfl) fun rs => ?_
  unfold c_iValidRow
  split
  · rename_i a0; intro v h; exact ⟨rfl, l_iValidRow v, rfl, (f_iValidRow_top a0 _).trans (s_iValidRow_ok a0 v h)⟩
  · intro v h; cases h

/-! ### function 14: loop.example/g01322/impl.RowText -/
noncomputable def f_iRowText_c : Code := match Tryd.f14.body with | some c => c | none => .skip
noncomputable def f_iRowText_X : Ctx := ⟨TT, phiOf [(29, c_iValidRow), (30, c_idecimal), (31, c_stringsJoin)], noPsi, noXi⟩
def f_iRowText_LV : List (Nat × Keep) := [(5, ([3, 10, 11, 12], [], []))]
def f_iRowText_rv : List ResultVar := [.tmp 2]
noncomputable def f_iRowText_L (r : List A) : Nat → AS → Option (List A) := L f_iRowText_X (cnOf f_iRowText_LV) f_iRowText_c (K0 TT f_iRowText_rv) r
theorem f_iRowText_ctx : CtxOK Tryd.prog f_iRowText_X := ctx_of tab mix ⟨⟨Tryd.call29, f_iValidRow_sound⟩, ⟨Tryd.call30, f_idecimal_sound⟩, ⟨Tryd.call31, f_stringsJoin_sound⟩, trivial⟩
noncomputable def f_iRowText_s5 (x0 : Int) (x1 : Int) (x2 : (List ByteArray)) (x3 : (List Int)) : AS := ⟨[(3, .a (.sl 0)), (10, .a (.sl 1)), (11, .a (.v (.int .i64 x0))), (12, .a (.v (.int .i64 x1)))], [(0, some ⟨true, .arr (.one .s) x2⟩), (1, some ⟨false, .arr (.one (.i .i16)) x3⟩)], 2⟩
noncomputable def l_iRowText (r : ByteArray) : List A := [.v (.string r)]
theorem f_iRowText_step5 (x0 : Int) (x1 : Int) (x2 : (List ByteArray)) (x3 : (List Int)) (r : List A) (h : (cond (decide (x1 < x0)) (cond (inB x1 (List.length x3)) (Option.bind (s_idecimal (IntKind.wrap .i64 (List.getD x3 (Int.toNat x1) 0))) fun r2 => (cond (fits ((List.length (x2 : List ByteArray) + List.length ([r2] : List ByteArray)) * 16)) (f_iRowText_L r 5 (f_iRowText_s5 x0 (IntKind.wrap .i64 (x1 + 1)) (x2 ++ [r2]) x3)) none)) none) (Option.bind (s_stringsJoin x2 (⟨#[44]⟩ : ByteArray)) fun r3 => (some [.v (.string r3)]))) = some r) : f_iRowText_L r 5 (f_iRowText_s5 x0 x1 x2 x3) = some r :=
  step_of' h (by kernel_rfl)
noncomputable def f_iRowText_n5 (x0 : Int) (x1 : Int) (x2 : (List ByteArray)) (x3 : (List Int)) : Option ((Int × Int × (List ByteArray) × (List Int)) ⊕ ByteArray) := (cond (decide (x1 < x0)) (cond (inB x1 (List.length x3)) (Option.bind (s_idecimal (IntKind.wrap .i64 (List.getD x3 (Int.toNat x1) 0))) fun r2 => (cond (fits ((List.length (x2 : List ByteArray) + List.length ([r2] : List ByteArray)) * 16)) (some (Sum.inl (x0, (IntKind.wrap .i64 (x1 + 1)), (x2 ++ [r2]), x3))) none)) none) (Option.bind (s_stringsJoin x2 (⟨#[44]⟩ : ByteArray)) fun r3 => (some (Sum.inr r3))))
noncomputable def f_iRowText_run5 (x : (Int × Int × (List ByteArray) × (List Int))) : Option ByteArray := iter (fun x => f_iRowText_n5 x.1 x.2.1 x.2.2.1 x.2.2.2) FU x
noncomputable def f_iRowText_G5 (r : List A) (x : (Int × Int × (List ByteArray) × (List Int))) : Prop := f_iRowText_L r 5 (f_iRowText_s5 x.1 x.2.1 x.2.2.1 x.2.2.2) = some r
noncomputable def f_iRowText_S5 (r : List A) : ByteArray → Prop := fun v => r = l_iRowText v
theorem f_iRowText_go5 (r : List A) : ∀ x, sem (f_iRowText_S5 r) (f_iRowText_run5 x) → f_iRowText_G5 r x :=
  fun x => iter_sound (step := fun x => f_iRowText_n5 x.1 x.2.1 x.2.2.1 x.2.2.2) (fun x h => by
    unfold f_iRowText_n5 at h
    exact f_iRowText_step5 x.1 x.2.1 x.2.2.1 x.2.2.2 r ((sem_cond h (fun h => (sem_cond h (fun h => (sem_bind h fun r2 h => (sem_cond h (fun h => sem_got h fun q => q) (fun h => sem_none h)))) (fun h => sem_none h))) (fun h => (sem_bind h fun r3 h => sem_got h fun q => some_eq q))))) FU x
noncomputable def s_iRowText (a0 : (List Int)) : Option ByteArray := (Option.bind (s_iValidRow a0) fun r1 => (cond (!r1) (some (⟨#[]⟩ : ByteArray)) (f_iRowText_run5 (((List.length a0 : Nat) : Int), 0, [], a0))))
theorem f_iRowText_top (a0 : (List Int)) (r : List A) : ev f_iRowText_X (lpc (cnOf f_iRowText_LV) (f_iRowText_L r)) f_iRowText_c (K0 TT f_iRowText_rv) (enter [.lst (.one (.i .i16)) a0]) = (Option.bind (s_iValidRow a0) fun r1 => (cond (!r1) (some [.v (.string (⟨#[]⟩ : ByteArray))]) (f_iRowText_L r 5 (f_iRowText_s5 ((List.length a0 : Nat) : Int) 0 [] a0)))) := by kernel_rfl
theorem s_iRowText_ok (a0 : (List Int)) (v : ByteArray) (h : s_iRowText a0 = some v) : (Option.bind (s_iValidRow a0) fun r1 => (cond (!r1) (some [.v (.string (⟨#[]⟩ : ByteArray))]) (f_iRowText_L (l_iRowText v) 5 (f_iRowText_s5 ((List.length a0 : Nat) : Int) 0 [] a0)))) = some (l_iRowText v) := by
  unfold s_iRowText at h
  have go : ∀ r, sem (fun v => r = l_iRowText v) ((Option.bind (s_iValidRow a0) fun r1 => (cond (!r1) (some (⟨#[]⟩ : ByteArray)) (f_iRowText_run5 (((List.length a0 : Nat) : Int), 0, [], a0))))) → (Option.bind (s_iValidRow a0) fun r1 => (cond (!r1) (some [.v (.string (⟨#[]⟩ : ByteArray))]) (f_iRowText_L r 5 (f_iRowText_s5 ((List.length a0 : Nat) : Int) 0 [] a0)))) = some r := fun r h => (sem_bind h fun r1 h => (sem_cond h (fun h => sem_got h fun q => some_eq q) (fun h => f_iRowText_go5 r _ h)))
  exact go (l_iRowText v) ⟨v, h, rfl⟩
noncomputable def c_iRowText : List A → ACall
  | [.lst (.one (.i .i16)) a0] => ⟨ByteArray, s_iRowText a0, fun r => .one (.v (.string r))⟩
  | _ => ACall.fail
theorem f_iRowText_sound : Sound Tryd.prog 14 c_iRowText := by
  refine sound_good f_iRowText_ctx f_iRowText_LV 1 Tryd.func14 (c := f_iRowText_c) (by kernel_rfl) (rv := f_iRowText_rv) (by kernel_rfl) (by kernel_rfl) (by kernel_rfl) (by kernel_rfl) fun rs => ?_
  unfold c_iRowText
  split
  · rename_i a0; intro v h; exact ⟨rfl, l_iRowText v, rfl, (f_iRowText_top a0 _).trans (s_iRowText_ok a0 v h)⟩
  · intro v h; cases h

/-! ### function 4: loop.example/g01322/laws.FnExactRowText -/
noncomputable def f_wFnExactRowText_c : Code := match Tryd.f4.body with | some c => c | none => .skip
noncomputable def f_wFnExactRowText_X : Ctx := ⟨TT, phiOf [(12, c_sRowText), (13, c_wtoRow), (14, c_iRowText), (15, c_weqRow)], noPsi, noXi⟩
def f_wFnExactRowText_LV : List (Nat × Keep) := []
def f_wFnExactRowText_rv : List ResultVar := [.tmp 2]
noncomputable def f_wFnExactRowText_L (r : List A) : Nat → AS → Option (List A) := L f_wFnExactRowText_X (cnOf f_wFnExactRowText_LV) f_wFnExactRowText_c (K0 TT f_wFnExactRowText_rv) r
theorem f_wFnExactRowText_ctx : CtxOK Tryd.prog f_wFnExactRowText_X := ctx_of tab mix ⟨⟨Tryd.call12, f_sRowText_sound⟩, ⟨Tryd.call13, f_wtoRow_sound⟩, ⟨Tryd.call14, f_iRowText_sound⟩, ⟨Tryd.call15, f_weqRow_sound⟩, trivial⟩
noncomputable def s_wFnExactRowText (a0 : (List Int)) : Option Bool := (cond (decide (((List.length a0 : Nat) : Int) > 1048576)) (some true) (Option.bind (s_wtoRow a0) fun r1 => (Option.bind (s_sRowText r1) fun r2 => (Option.bind (s_wtoRow a0) fun r3 => (Option.bind (s_iRowText r3) fun r4 => (cond (!(r4.toList == r2.toList)) (some false) (Option.bind (s_wtoRow a0) fun r5 => (Option.bind (s_weqRow r3 r5) fun r6 => (cond (!r6) (some false) (some true))))))))))
theorem f_wFnExactRowText_top (a0 : (List Int)) (r : List A) : ev f_wFnExactRowText_X (lpc (cnOf f_wFnExactRowText_LV) (f_wFnExactRowText_L r)) f_wFnExactRowText_c (K0 TT f_wFnExactRowText_rv) (enter [.lst (.one (.i .i16)) a0]) = (cond (decide (((List.length a0 : Nat) : Int) > 1048576)) (some [.v (.bool true)]) (Option.bind (s_wtoRow a0) fun r1 => (Option.bind (s_sRowText r1) fun r2 => (Option.bind (s_wtoRow a0) fun r3 => (Option.bind (s_iRowText r3) fun r4 => (cond (!(r4.toList == r2.toList)) (some [.v (.bool false)]) (Option.bind (s_wtoRow a0) fun r5 => (Option.bind (s_weqRow r3 r5) fun r6 => (cond (!r6) (some [.v (.bool false)]) (some [.v (.bool true)])))))))))) := by kernel_rfl
noncomputable def l_wFnExactRowText (r : Bool) : List A := [.v (.bool r)]
theorem s_wFnExactRowText_ok (a0 : (List Int)) (v : Bool) (h : s_wFnExactRowText a0 = some v) : (cond (decide (((List.length a0 : Nat) : Int) > 1048576)) (some [.v (.bool true)]) (Option.bind (s_wtoRow a0) fun r1 => (Option.bind (s_sRowText r1) fun r2 => (Option.bind (s_wtoRow a0) fun r3 => (Option.bind (s_iRowText r3) fun r4 => (cond (!(r4.toList == r2.toList)) (some [.v (.bool false)]) (Option.bind (s_wtoRow a0) fun r5 => (Option.bind (s_weqRow r3 r5) fun r6 => (cond (!r6) (some [.v (.bool false)]) (some [.v (.bool true)])))))))))) = some (l_wFnExactRowText v) := by
  have e : (cond (decide (((List.length a0 : Nat) : Int) > 1048576)) (some [.v (.bool true)]) (Option.bind (s_wtoRow a0) fun r1 => (Option.bind (s_sRowText r1) fun r2 => (Option.bind (s_wtoRow a0) fun r3 => (Option.bind (s_iRowText r3) fun r4 => (cond (!(r4.toList == r2.toList)) (some [.v (.bool false)]) (Option.bind (s_wtoRow a0) fun r5 => (Option.bind (s_weqRow r3 r5) fun r6 => (cond (!r6) (some [.v (.bool false)]) (some [.v (.bool true)])))))))))) = Option.map l_wFnExactRowText (s_wFnExactRowText a0) := by
    unfold s_wFnExactRowText
    exact (cond_app (Option.map l_wFnExactRowText) rfl (bind_app fun _ => (bind_app fun _ => (bind_app fun _ => (bind_app fun _ => (cond_app (Option.map l_wFnExactRowText) rfl (bind_app fun _ => (bind_app fun _ => (cond_app (Option.map l_wFnExactRowText) rfl rfl)))))))))
  rw [e, h]; rfl
noncomputable def c_wFnExactRowText : List A → ACall
  | [.lst (.one (.i .i16)) a0] => ⟨Bool, s_wFnExactRowText a0, fun r => .one (.v (.bool r))⟩
  | _ => ACall.fail
theorem f_wFnExactRowText_sound : Sound Tryd.prog 4 c_wFnExactRowText := by
  refine sound_good f_wFnExactRowText_ctx f_wFnExactRowText_LV 1 Tryd.func4 (c := f_wFnExactRowText_c) (by kernel_rfl) (rv := f_wFnExactRowText_rv) (by kernel_rfl) (by kernel_rfl) (by kernel_rfl) (by kernel_rfl) fun rs => ?_
  unfold c_wFnExactRowText
  split
  · rename_i a0; intro v h; exact ⟨rfl, l_wFnExactRowText v, rfl, (f_wFnExactRowText_top a0 _).trans (s_wFnExactRowText_ok a0 v h)⟩
  · intro v h; cases h
end Go.RR
