/- Trim. -/
import Derived.Test.YtbmaolhjplapoaaDoorVa
import Derived.Test.YtbmaolhjplapoaaDoorR3
set_option linter.unusedVariables false
set_option linter.unusedSimpArgs false
set_option linter.unusedSectionVars false
set_option maxRecDepth 100000
namespace Go.RR
open Go Go.Proofs

/-! ### function 112: strings.trimRightByte -/
noncomputable def f_stringstrimRightByte_c : Code := match Tryd.f112.body with | some c => c | none => .skip
noncomputable def f_stringstrimRightByte_X : Ctx := ⟨TT, phiOf [], noPsi, noXi⟩
def f_stringstrimRightByte_LV : List (Nat × Keep) := [(1, ([0, 1], [], []))]
def f_stringstrimRightByte_rv : List ResultVar := [.tmp 4]
noncomputable def f_stringstrimRightByte_L (r : List A) : Nat → AS → Option (List A) := L f_stringstrimRightByte_X (cnOf f_stringstrimRightByte_LV) f_stringstrimRightByte_c (K0 TT f_stringstrimRightByte_rv) r
theorem f_stringstrimRightByte_ctx : CtxOK Tryd.prog f_stringstrimRightByte_X := ctx_of tab mix trivial
noncomputable def f_stringstrimRightByte_s1 (x0 : ByteArray) (x1 : Int) : AS := ⟨[(0, .a (.v (.string x0))), (1, .a (.v (.int .u8 x1)))], [], 0⟩
noncomputable def l_stringstrimRightByte (r : ByteArray) : List A := [.v (.string r)]
theorem f_stringstrimRightByte_step1 (x0 : ByteArray) (x1 : Int) (r : List A) (h : (cond (decide (((x0.size : Nat) : Int) > 0)) (cond (inB (IntKind.wrap .i64 (((x0.size : Nat) : Int) - 1)) x0.size) (cond ((byteAt x0 (Int.toNat (IntKind.wrap .i64 (((x0.size : Nat) : Int) - 1)))) == x1) (cond (inS 0 (IntKind.wrap .i64 (((x0.size : Nat) : Int) - 1)) x0.size) (f_stringstrimRightByte_L r 1 (f_stringstrimRightByte_s1 (ByteArray.extract x0 0 (Int.toNat (IntKind.wrap .i64 (((x0.size : Nat) : Int) - 1)))) x1)) none) (some [.v (.string x0)])) none) (some [.v (.string x0)])) = some r) : f_stringstrimRightByte_L r 1 (f_stringstrimRightByte_s1 x0 x1) = some r :=
  step_of' h (by kernel_rfl)
noncomputable def f_stringstrimRightByte_n1 (x0 : ByteArray) (x1 : Int) : Option ((ByteArray × Int) ⊕ ByteArray) := (cond (decide (((x0.size : Nat) : Int) > 0)) (cond (inB (IntKind.wrap .i64 (((x0.size : Nat) : Int) - 1)) x0.size) (cond ((byteAt x0 (Int.toNat (IntKind.wrap .i64 (((x0.size : Nat) : Int) - 1)))) == x1) (cond (inS 0 (IntKind.wrap .i64 (((x0.size : Nat) : Int) - 1)) x0.size) (some (Sum.inl ((ByteArray.extract x0 0 (Int.toNat (IntKind.wrap .i64 (((x0.size : Nat) : Int) - 1)))), x1))) none) (some (Sum.inr x0))) none) (some (Sum.inr x0)))
noncomputable def f_stringstrimRightByte_run1 (x : (ByteArray × Int)) : Option ByteArray := iter (fun x => f_stringstrimRightByte_n1 x.1 x.2) FU x
noncomputable def f_stringstrimRightByte_G1 (r : List A) (x : (ByteArray × Int)) : Prop := f_stringstrimRightByte_L r 1 (f_stringstrimRightByte_s1 x.1 x.2) = some r
noncomputable def f_stringstrimRightByte_S1 (r : List A) : ByteArray → Prop := fun v => r = l_stringstrimRightByte v
theorem f_stringstrimRightByte_go1 (r : List A) : ∀ x, sem (f_stringstrimRightByte_S1 r) (f_stringstrimRightByte_run1 x) → f_stringstrimRightByte_G1 r x :=
  fun x => iter_sound (step := fun x => f_stringstrimRightByte_n1 x.1 x.2) (fun x h => by
    unfold f_stringstrimRightByte_n1 at h
    exact f_stringstrimRightByte_step1 x.1 x.2 r ((sem_cond h (fun h => (sem_cond h (fun h => (sem_cond h (fun h => (sem_cond h (fun h => sem_got h fun q => q) (fun h => sem_none h))) (fun h => sem_got h fun q => some_eq q))) (fun h => sem_none h))) (fun h => sem_got h fun q => some_eq q)))) FU x
noncomputable def s_stringstrimRightByte (a0 : ByteArray) (a1 : Int) : Option ByteArray := (f_stringstrimRightByte_run1 (a0, a1))
theorem f_stringstrimRightByte_top (a0 : ByteArray) (a1 : Int) (r : List A) : ev f_stringstrimRightByte_X (lpc (cnOf f_stringstrimRightByte_LV) (f_stringstrimRightByte_L r)) f_stringstrimRightByte_c (K0 TT f_stringstrimRightByte_rv) (enter [.v (.string a0), .v (.int .u8 a1)]) = (f_stringstrimRightByte_L r 1 (f_stringstrimRightByte_s1 a0 a1)) := by kernel_rfl
theorem s_stringstrimRightByte_ok (a0 : ByteArray) (a1 : Int) (v : ByteArray) (h : s_stringstrimRightByte a0 a1 = some v) : (f_stringstrimRightByte_L (l_stringstrimRightByte v) 1 (f_stringstrimRightByte_s1 a0 a1)) = some (l_stringstrimRightByte v) := by
  unfold s_stringstrimRightByte at h
  have go : ∀ r, sem (fun v => r = l_stringstrimRightByte v) ((f_stringstrimRightByte_run1 (a0, a1))) → (f_stringstrimRightByte_L r 1 (f_stringstrimRightByte_s1 a0 a1)) = some r := fun r h => f_stringstrimRightByte_go1 r _ h
  exact go (l_stringstrimRightByte v) ⟨v, h, rfl⟩
noncomputable def c_stringstrimRightByte : List A → ACall
  | [.v (.string a0), .v (.int .u8 a1)] => ⟨ByteArray, s_stringstrimRightByte a0 a1, fun r => .one (.v (.string r))⟩
  | _ => ACall.fail
theorem f_stringstrimRightByte_sound : Sound Tryd.prog 112 c_stringstrimRightByte := by
  refine sound_good f_stringstrimRightByte_ctx f_stringstrimRightByte_LV 2 Tryd.func112 (c := f_stringstrimRightByte_c) (by kernel_rfl) (rv := f_stringstrimRightByte_rv) (by kernel_rfl) (by kernel_rfl) (by kernel_rfl) (by kernel_rfl) fun rs => ?_
  unfold c_stringstrimRightByte
  split
  · rename_i a0 a1; intro v h; exact ⟨rfl, l_stringstrimRightByte v, rfl, (f_stringstrimRightByte_top a0 a1 _).trans (s_stringstrimRightByte_ok a0 a1 v h)⟩
  · intro v h; cases h

/-! ### function 111: strings.trimLeftByte -/
noncomputable def f_stringstrimLeftByte_c : Code := match Tryd.f111.body with | some c => c | none => .skip
noncomputable def f_stringstrimLeftByte_X : Ctx := ⟨TT, phiOf [], noPsi, noXi⟩
def f_stringstrimLeftByte_LV : List (Nat × Keep) := [(1, ([0, 1], [], []))]
def f_stringstrimLeftByte_rv : List ResultVar := [.tmp 4]
noncomputable def f_stringstrimLeftByte_L (r : List A) : Nat → AS → Option (List A) := L f_stringstrimLeftByte_X (cnOf f_stringstrimLeftByte_LV) f_stringstrimLeftByte_c (K0 TT f_stringstrimLeftByte_rv) r
theorem f_stringstrimLeftByte_ctx : CtxOK Tryd.prog f_stringstrimLeftByte_X := ctx_of tab mix trivial
noncomputable def f_stringstrimLeftByte_s1 (x0 : ByteArray) (x1 : Int) : AS := ⟨[(0, .a (.v (.string x0))), (1, .a (.v (.int .u8 x1)))], [], 0⟩
noncomputable def l_stringstrimLeftByte (r : ByteArray) : List A := [.v (.string r)]
theorem f_stringstrimLeftByte_step1 (x0 : ByteArray) (x1 : Int) (r : List A) (h : (cond (decide (((x0.size : Nat) : Int) > 0)) (cond (inB 0 x0.size) (cond ((byteAt x0 0) == x1) (cond (inS 1 (x0.size : Int) x0.size) (f_stringstrimLeftByte_L r 1 (f_stringstrimLeftByte_s1 (ByteArray.extract x0 1 (Int.toNat (x0.size : Int))) x1)) none) (some [.v (.string x0)])) none) (some [.v (.string x0)])) = some r) : f_stringstrimLeftByte_L r 1 (f_stringstrimLeftByte_s1 x0 x1) = some r :=
  step_of' h (by kernel_rfl)
noncomputable def f_stringstrimLeftByte_n1 (x0 : ByteArray) (x1 : Int) : Option ((ByteArray × Int) ⊕ ByteArray) := (cond (decide (((x0.size : Nat) : Int) > 0)) (cond (inB 0 x0.size) (cond ((byteAt x0 0) == x1) (cond (inS 1 (x0.size : Int) x0.size) (some (Sum.inl ((ByteArray.extract x0 1 (Int.toNat (x0.size : Int))), x1))) none) (some (Sum.inr x0))) none) (some (Sum.inr x0)))
noncomputable def f_stringstrimLeftByte_run1 (x : (ByteArray × Int)) : Option ByteArray := iter (fun x => f_stringstrimLeftByte_n1 x.1 x.2) FU x
noncomputable def f_stringstrimLeftByte_G1 (r : List A) (x : (ByteArray × Int)) : Prop := f_stringstrimLeftByte_L r 1 (f_stringstrimLeftByte_s1 x.1 x.2) = some r
noncomputable def f_stringstrimLeftByte_S1 (r : List A) : ByteArray → Prop := fun v => r = l_stringstrimLeftByte v
theorem f_stringstrimLeftByte_go1 (r : List A) : ∀ x, sem (f_stringstrimLeftByte_S1 r) (f_stringstrimLeftByte_run1 x) → f_stringstrimLeftByte_G1 r x :=
  fun x => iter_sound (step := fun x => f_stringstrimLeftByte_n1 x.1 x.2) (fun x h => by
    unfold f_stringstrimLeftByte_n1 at h
    exact f_stringstrimLeftByte_step1 x.1 x.2 r ((sem_cond h (fun h => (sem_cond h (fun h => (sem_cond h (fun h => (sem_cond h (fun h => sem_got h fun q => q) (fun h => sem_none h))) (fun h => sem_got h fun q => some_eq q))) (fun h => sem_none h))) (fun h => sem_got h fun q => some_eq q)))) FU x
noncomputable def s_stringstrimLeftByte (a0 : ByteArray) (a1 : Int) : Option ByteArray := (f_stringstrimLeftByte_run1 (a0, a1))
theorem f_stringstrimLeftByte_top (a0 : ByteArray) (a1 : Int) (r : List A) : ev f_stringstrimLeftByte_X (lpc (cnOf f_stringstrimLeftByte_LV) (f_stringstrimLeftByte_L r)) f_stringstrimLeftByte_c (K0 TT f_stringstrimLeftByte_rv) (enter [.v (.string a0), .v (.int .u8 a1)]) = (f_stringstrimLeftByte_L r 1 (f_stringstrimLeftByte_s1 a0 a1)) := by kernel_rfl
theorem s_stringstrimLeftByte_ok (a0 : ByteArray) (a1 : Int) (v : ByteArray) (h : s_stringstrimLeftByte a0 a1 = some v) : (f_stringstrimLeftByte_L (l_stringstrimLeftByte v) 1 (f_stringstrimLeftByte_s1 a0 a1)) = some (l_stringstrimLeftByte v) := by
  unfold s_stringstrimLeftByte at h
  have go : ∀ r, sem (fun v => r = l_stringstrimLeftByte v) ((f_stringstrimLeftByte_run1 (a0, a1))) → (f_stringstrimLeftByte_L r 1 (f_stringstrimLeftByte_s1 a0 a1)) = some r := fun r h => f_stringstrimLeftByte_go1 r _ h
  exact go (l_stringstrimLeftByte v) ⟨v, h, rfl⟩
noncomputable def c_stringstrimLeftByte : List A → ACall
  | [.v (.string a0), .v (.int .u8 a1)] => ⟨ByteArray, s_stringstrimLeftByte a0 a1, fun r => .one (.v (.string r))⟩
  | _ => ACall.fail
theorem f_stringstrimLeftByte_sound : Sound Tryd.prog 111 c_stringstrimLeftByte := by
  refine sound_good f_stringstrimLeftByte_ctx f_stringstrimLeftByte_LV 2 Tryd.func111 (c := f_stringstrimLeftByte_c) (by kernel_rfl) (rv := f_stringstrimLeftByte_rv) (by kernel_rfl) (by kernel_rfl) (by kernel_rfl) (by kernel_rfl) fun rs => ?_
  unfold c_stringstrimLeftByte
  split
  · rename_i a0 a1; intro v h; exact ⟨rfl, l_stringstrimLeftByte v, rfl, (f_stringstrimLeftByte_top a0 a1 _).trans (s_stringstrimLeftByte_ok a0 a1 v h)⟩
  · intro v h; cases h

/-! ### function 113: strings.makeASCIISet -/
noncomputable def f_stringsmakeASCIISet_c : Code := match Tryd.f113.body with | some c => c | none => .skip
noncomputable def f_stringsmakeASCIISet_X : Ctx := ⟨TT, phiOf [], noPsi, noXi⟩
def f_stringsmakeASCIISet_LV : List (Nat × Keep) := [(2, ([0, 2, 4], [], []))]
def f_stringsmakeASCIISet_rv : List ResultVar := [.cell 2 130, .tmp 3]
noncomputable def f_stringsmakeASCIISet_L (r : List A) : Nat → AS → Option (List A) := L f_stringsmakeASCIISet_X (cnOf f_stringsmakeASCIISet_LV) f_stringsmakeASCIISet_c (K0 TT f_stringsmakeASCIISet_rv) r
theorem f_stringsmakeASCIISet_ctx : CtxOK Tryd.prog f_stringsmakeASCIISet_X := ctx_of tab mix trivial
noncomputable def f_stringsmakeASCIISet_s2 (x0 : ByteArray) (x1 : Int) (x2 : (Nat → Bool)) : AS := ⟨[(0, .a (.v (.string x0))), (2, .a (.ptr 0 [] (0))), (4, .a (.v (.int .i64 x1)))], [(0, some ⟨true, .box (.fb 256 x2)⟩)], 1⟩
noncomputable def l_stringsmakeASCIISet (r : ((Nat → Bool) × Bool)) : List A := [.fb 256 r.1, .v (.bool r.2)]
theorem f_stringsmakeASCIISet_step2 (x0 : ByteArray) (x1 : Int) (x2 : (Nat → Bool)) (r : List A) (h : (cond (decide (x1 < ((x0.size : Nat) : Int))) (cond (inB x1 x0.size) (cond (decide ((byteAt x0 (Int.toNat x1)) ≥ 128)) (some [.fb 256 x2, .v (.bool false)]) (cond (inB (byteAt x0 (Int.toNat x1)) 256) (f_stringsmakeASCIISet_L r 2 (f_stringsmakeASCIISet_s2 x0 (IntKind.wrap .i64 (x1 + 1)) (updb x2 (Int.toNat (byteAt x0 (Int.toNat x1))) true))) none)) none) (some [.fb 256 x2, .v (.bool true)])) = some r) : f_stringsmakeASCIISet_L r 2 (f_stringsmakeASCIISet_s2 x0 x1 x2) = some r :=
  step_of' h (by kernel_rfl)
noncomputable def f_stringsmakeASCIISet_n2 (x0 : ByteArray) (x1 : Int) (x2 : (Nat → Bool)) : Option ((ByteArray × Int × (Nat → Bool)) ⊕ ((Nat → Bool) × Bool)) := (cond (decide (x1 < ((x0.size : Nat) : Int))) (cond (inB x1 x0.size) (cond (decide ((byteAt x0 (Int.toNat x1)) ≥ 128)) (some (Sum.inr (x2, false))) (cond (inB (byteAt x0 (Int.toNat x1)) 256) (some (Sum.inl (x0, (IntKind.wrap .i64 (x1 + 1)), (updb x2 (Int.toNat (byteAt x0 (Int.toNat x1))) true)))) none)) none) (some (Sum.inr (x2, true))))
noncomputable def f_stringsmakeASCIISet_run2 (x : (ByteArray × Int × (Nat → Bool))) : Option ((Nat → Bool) × Bool) := iter (fun x => f_stringsmakeASCIISet_n2 x.1 x.2.1 x.2.2) FU x
noncomputable def f_stringsmakeASCIISet_G2 (r : List A) (x : (ByteArray × Int × (Nat → Bool))) : Prop := f_stringsmakeASCIISet_L r 2 (f_stringsmakeASCIISet_s2 x.1 x.2.1 x.2.2) = some r
noncomputable def f_stringsmakeASCIISet_S2 (r : List A) : ((Nat → Bool) × Bool) → Prop := fun v => r = l_stringsmakeASCIISet v
theorem f_stringsmakeASCIISet_go2 (r : List A) : ∀ x, sem (f_stringsmakeASCIISet_S2 r) (f_stringsmakeASCIISet_run2 x) → f_stringsmakeASCIISet_G2 r x :=
  fun x => iter_sound (step := fun x => f_stringsmakeASCIISet_n2 x.1 x.2.1 x.2.2) (fun x h => by
    unfold f_stringsmakeASCIISet_n2 at h
    exact f_stringsmakeASCIISet_step2 x.1 x.2.1 x.2.2 r ((sem_cond h (fun h => (sem_cond h (fun h => (sem_cond h (fun h => sem_got h fun q => some_eq q) (fun h => (sem_cond h (fun h => sem_got h fun q => q) (fun h => sem_none h))))) (fun h => sem_none h))) (fun h => sem_got h fun q => some_eq q)))) FU x
noncomputable def s_stringsmakeASCIISet (a0 : ByteArray) : Option ((Nat → Bool) × Bool) := (f_stringsmakeASCIISet_run2 (a0, 0, zB))
theorem f_stringsmakeASCIISet_top (a0 : ByteArray) (r : List A) : ev f_stringsmakeASCIISet_X (lpc (cnOf f_stringsmakeASCIISet_LV) (f_stringsmakeASCIISet_L r)) f_stringsmakeASCIISet_c (K0 TT f_stringsmakeASCIISet_rv) (enter [.v (.string a0)]) = (f_stringsmakeASCIISet_L r 2 (f_stringsmakeASCIISet_s2 a0 0 zB)) := by kernel_rfl
theorem s_stringsmakeASCIISet_ok (a0 : ByteArray) (v : ((Nat → Bool) × Bool)) (h : s_stringsmakeASCIISet a0 = some v) : (f_stringsmakeASCIISet_L (l_stringsmakeASCIISet v) 2 (f_stringsmakeASCIISet_s2 a0 0 zB)) = some (l_stringsmakeASCIISet v) := by
  unfold s_stringsmakeASCIISet at h
  have go : ∀ r, sem (fun v => r = l_stringsmakeASCIISet v) ((f_stringsmakeASCIISet_run2 (a0, 0, zB))) → (f_stringsmakeASCIISet_L r 2 (f_stringsmakeASCIISet_s2 a0 0 zB)) = some r := fun r h => f_stringsmakeASCIISet_go2 r _ h
  exact go (l_stringsmakeASCIISet v) ⟨v, h, rfl⟩
noncomputable def c_stringsmakeASCIISet : List A → ACall
  | [.v (.string a0)] => ⟨((Nat → Bool) × Bool), s_stringsmakeASCIISet a0, fun r => .tup [.fb 256 r.1, .v (.bool r.2)]⟩
  | _ => ACall.fail
theorem f_stringsmakeASCIISet_sound : Sound Tryd.prog 113 c_stringsmakeASCIISet := by
  refine sound_good f_stringsmakeASCIISet_ctx f_stringsmakeASCIISet_LV 1 Tryd.func113 (c := f_stringsmakeASCIISet_c) (by kernel_rfl) (rv := f_stringsmakeASCIISet_rv) (by kernel_rfl) (by kernel_rfl) (by kernel_rfl) (by kernel_rfl) fun rs => ?_
  unfold c_stringsmakeASCIISet
  split
  · rename_i a0; intro v h; exact ⟨rfl, l_stringsmakeASCIISet v, rfl, (f_stringsmakeASCIISet_top a0 _).trans (s_stringsmakeASCIISet_ok a0 v h)⟩
  · intro v h; cases h

/-! ### function 136: (*strings.asciiSet).contains -/
noncomputable def f_stringsasciiSet_contains_c : Code := match Tryd.f136.body with | some c => c | none => .skip
noncomputable def f_stringsasciiSet_contains_X : Ctx := ⟨TT, phiOf [], noPsi, noXi⟩
def f_stringsasciiSet_contains_LV : List (Nat × Keep) := []
def f_stringsasciiSet_contains_rv : List ResultVar := [.tmp 4]
noncomputable def f_stringsasciiSet_contains_hp0 : List (Nat × Option Blk) := [(0, some ⟨true, .box (.fb 256 zB)⟩)]
noncomputable def f_stringsasciiSet_contains_L (r : HOut) : Nat → AS → Option HOut := L f_stringsasciiSet_contains_X (cnOfH 1 f_stringsasciiSet_contains_LV) f_stringsasciiSet_contains_c (K0H TT f_stringsasciiSet_contains_rv f_stringsasciiSet_contains_hp0) r
theorem f_stringsasciiSet_contains_ctx : CtxOK Tryd.prog f_stringsasciiSet_contains_X := ctx_of tab mix trivial
noncomputable def s_stringsasciiSet_contains (a0 : Int) (a1 : (Nat → Bool)) : Option (Bool × (Nat → Bool)) := (cond (inB a0 256) (some ((a1 (Int.toNat a0)), a1)) none)
theorem f_stringsasciiSet_contains_top (a0 : Int) (a1 : (Nat → Bool)) (r : HOut) : ev f_stringsasciiSet_contains_X (lpc (cnOfH 1 f_stringsasciiSet_contains_LV) (f_stringsasciiSet_contains_L r)) f_stringsasciiSet_contains_c (K0H TT f_stringsasciiSet_contains_rv f_stringsasciiSet_contains_hp0) (enterH [.ptr 0 [] (0), .v (.int .u8 a0)] [(0, some ⟨true, .box (.fb 256 a1)⟩)]) = (cond (inB a0 256) (some ⟨.a (.v (.bool (a1 (Int.toNat a0)))), [(0, some ⟨true, .box (.fb 256 a1)⟩)], 1⟩) none) := by kernel_rfl
noncomputable def l_stringsasciiSet_contains (r : (Bool × (Nat → Bool))) : HOut := ⟨.a (.v (.bool r.1)), [(0, some ⟨true, .box (.fb 256 r.2)⟩)], 1⟩
theorem s_stringsasciiSet_contains_ok (a0 : Int) (a1 : (Nat → Bool)) (v : (Bool × (Nat → Bool))) (h : s_stringsasciiSet_contains a0 a1 = some v) : (cond (inB a0 256) (some ⟨.a (.v (.bool (a1 (Int.toNat a0)))), [(0, some ⟨true, .box (.fb 256 a1)⟩)], 1⟩) none) = some (l_stringsasciiSet_contains v) := by
  have e : (cond (inB a0 256) (some ⟨.a (.v (.bool (a1 (Int.toNat a0)))), [(0, some ⟨true, .box (.fb 256 a1)⟩)], 1⟩) none) = Option.map l_stringsasciiSet_contains (s_stringsasciiSet_contains a0 a1) := by
    unfold s_stringsasciiSet_contains
    exact (cond_app (Option.map l_stringsasciiSet_contains) rfl rfl)
  rw [e, h]; rfl
noncomputable def h_stringsasciiSet_contains : HCon := fun xs hp => match xs, hp with
  | [.ptr 0 [] (0), .v (.int .u8 a0)], [(0, some ⟨true, .box (.fb 256 a1)⟩)] => .one (Bool × (Nat → Bool)) (s_stringsasciiSet_contains a0 a1) l_stringsasciiSet_contains
  | _, _ => HAns.fail
theorem f_stringsasciiSet_contains_sound : HSound Tryd.prog 136 h_stringsasciiSet_contains := by
  refine sound_goodH f_stringsasciiSet_contains_ctx f_stringsasciiSet_contains_LV 2 1 f_stringsasciiSet_contains_hp0 Tryd.func136 (c := f_stringsasciiSet_contains_c) (by kernel_rfl) (rv := f_stringsasciiSet_contains_rv) (by kernel_rfl) (by kernel_rfl) (by kernel_rfl) (by kernel_rfl) fun xs hp => ?_
  unfold h_stringsasciiSet_contains
  split
  · rename_i a0 a1; intro v h; exact ⟨rfl, ⟨rfl, rfl⟩, (f_stringsasciiSet_contains_top a0 a1 _).trans (s_stringsasciiSet_contains_ok a0 a1 v h)⟩
  · intro v h; cases h
noncomputable def m_stringsasciiSet_contains : List A → List (Nat × Option Blk) → Bool
  | [.ptr 0 [] (0), .v (.int .u8 a0)], [(0, some ⟨true, .box (.fb 256 a1)⟩)] => true
  | _, _ => false

/-! ### function 115: strings.trimRightASCII -/
noncomputable def f_stringstrimRightASCII_c : Code := match Tryd.f115.body with | some c => c | none => .skip
noncomputable def f_stringstrimRightASCII_X : Ctx := ⟨TT, phiOf [], noPsi, (xiOf [(136, h_stringsasciiSet_contains)])⟩
def f_stringstrimRightASCII_LV : List (Nat × Keep) := [(1, ([0, 1], [], []))]
def f_stringstrimRightASCII_rv : List ResultVar := [.tmp 4]
noncomputable def f_stringstrimRightASCII_hp0 : List (Nat × Option Blk) := [(0, some ⟨true, .box (.fb 256 zB)⟩)]
noncomputable def f_stringstrimRightASCII_L (r : HOut) : Nat → AS → Option HOut := L f_stringstrimRightASCII_X (cnOfH 1 f_stringstrimRightASCII_LV) f_stringstrimRightASCII_c (K0H TT f_stringstrimRightASCII_rv f_stringstrimRightASCII_hp0) r
theorem f_stringstrimRightASCII_ctx : CtxOK Tryd.prog f_stringstrimRightASCII_X := ctx_ofH tab mix (l := []) trivial psi_no (xi_ok (l := [(136, h_stringsasciiSet_contains)]) ⟨⟨Tryd.call136, f_stringsasciiSet_contains_sound⟩, trivial⟩)
noncomputable def f_stringstrimRightASCII_s1 (x0 : ByteArray) (x1 : (Nat → Bool)) : AS := ⟨[(0, .a (.v (.string x0))), (1, .a (.ptr 0 [] (0)))], [(0, some ⟨true, .box (.fb 256 x1)⟩)], 1⟩
noncomputable def l_stringstrimRightASCII (r : (ByteArray × (Nat → Bool))) : HOut := ⟨.a (.v (.string r.1)), [(0, some ⟨true, .box (.fb 256 r.2)⟩)], 1⟩
theorem f_stringstrimRightASCII_step1 (x0 : ByteArray) (x1 : (Nat → Bool)) (r : HOut) (h : (cond (decide (((x0.size : Nat) : Int) > 0)) (cond (inB (IntKind.wrap .i64 (((x0.size : Nat) : Int) - 1)) x0.size) (Option.bind (s_stringsasciiSet_contains (byteAt x0 (Int.toNat (IntKind.wrap .i64 (((x0.size : Nat) : Int) - 1)))) x1) fun r1 => (cond (!r1.1) (some ⟨.a (.v (.string x0)), [(0, some ⟨true, .box (.fb 256 r1.2)⟩)], 1⟩) (cond (inS 0 (IntKind.wrap .i64 (((x0.size : Nat) : Int) - 1)) x0.size) (f_stringstrimRightASCII_L r 1 (f_stringstrimRightASCII_s1 (ByteArray.extract x0 0 (Int.toNat (IntKind.wrap .i64 (((x0.size : Nat) : Int) - 1)))) r1.2)) none))) none) (some ⟨.a (.v (.string x0)), [(0, some ⟨true, .box (.fb 256 x1)⟩)], 1⟩)) = some r) : f_stringstrimRightASCII_L r 1 (f_stringstrimRightASCII_s1 x0 x1) = some r :=
  step_of' h (by kernel_rfl)
noncomputable def f_stringstrimRightASCII_n1 (x0 : ByteArray) (x1 : (Nat → Bool)) : Option ((ByteArray × (Nat → Bool)) ⊕ (ByteArray × (Nat → Bool))) := (cond (decide (((x0.size : Nat) : Int) > 0)) (cond (inB (IntKind.wrap .i64 (((x0.size : Nat) : Int) - 1)) x0.size) (Option.bind (s_stringsasciiSet_contains (byteAt x0 (Int.toNat (IntKind.wrap .i64 (((x0.size : Nat) : Int) - 1)))) x1) fun r1 => (cond (!r1.1) (some (Sum.inr (x0, (r1.2)))) (cond (inS 0 (IntKind.wrap .i64 (((x0.size : Nat) : Int) - 1)) x0.size) (some (Sum.inl ((ByteArray.extract x0 0 (Int.toNat (IntKind.wrap .i64 (((x0.size : Nat) : Int) - 1)))), r1.2))) none))) none) (some (Sum.inr (x0, x1))))
noncomputable def f_stringstrimRightASCII_run1 (x : (ByteArray × (Nat → Bool))) : Option (ByteArray × (Nat → Bool)) := iter (fun x => f_stringstrimRightASCII_n1 x.1 x.2) FU x
noncomputable def f_stringstrimRightASCII_G1 (r : HOut) (x : (ByteArray × (Nat → Bool))) : Prop := f_stringstrimRightASCII_L r 1 (f_stringstrimRightASCII_s1 x.1 x.2) = some r
noncomputable def f_stringstrimRightASCII_S1 (r : HOut) : (ByteArray × (Nat → Bool)) → Prop := fun v => r = l_stringstrimRightASCII v
theorem f_stringstrimRightASCII_go1 (r : HOut) : ∀ x, sem (f_stringstrimRightASCII_S1 r) (f_stringstrimRightASCII_run1 x) → f_stringstrimRightASCII_G1 r x :=
  fun x => iter_sound (step := fun x => f_stringstrimRightASCII_n1 x.1 x.2) (fun x h => by
    unfold f_stringstrimRightASCII_n1 at h
    exact f_stringstrimRightASCII_step1 x.1 x.2 r ((sem_cond h (fun h => (sem_cond h (fun h => (sem_bind h fun r1 h => (sem_cond h (fun h => sem_got h fun q => some_eq q) (fun h => (sem_cond h (fun h => sem_got h fun q => q) (fun h => sem_none h)))))) (fun h => sem_none h))) (fun h => sem_got h fun q => some_eq q)))) FU x
noncomputable def s_stringstrimRightASCII (a0 : ByteArray) (a1 : (Nat → Bool)) : Option (ByteArray × (Nat → Bool)) := (f_stringstrimRightASCII_run1 (a0, a1))
theorem f_stringstrimRightASCII_top (a0 : ByteArray) (a1 : (Nat → Bool)) (r : HOut) : ev f_stringstrimRightASCII_X (lpc (cnOfH 1 f_stringstrimRightASCII_LV) (f_stringstrimRightASCII_L r)) f_stringstrimRightASCII_c (K0H TT f_stringstrimRightASCII_rv f_stringstrimRightASCII_hp0) (enterH [.v (.string a0), .ptr 0 [] (0)] [(0, some ⟨true, .box (.fb 256 a1)⟩)]) = (f_stringstrimRightASCII_L r 1 (f_stringstrimRightASCII_s1 a0 a1)) := by kernel_rfl
theorem s_stringstrimRightASCII_ok (a0 : ByteArray) (a1 : (Nat → Bool)) (v : (ByteArray × (Nat → Bool))) (h : s_stringstrimRightASCII a0 a1 = some v) : (f_stringstrimRightASCII_L (l_stringstrimRightASCII v) 1 (f_stringstrimRightASCII_s1 a0 a1)) = some (l_stringstrimRightASCII v) := by
  unfold s_stringstrimRightASCII at h
  have go : ∀ r, sem (fun v => r = l_stringstrimRightASCII v) ((f_stringstrimRightASCII_run1 (a0, a1))) → (f_stringstrimRightASCII_L r 1 (f_stringstrimRightASCII_s1 a0 a1)) = some r := fun r h => f_stringstrimRightASCII_go1 r _ h
  exact go (l_stringstrimRightASCII v) ⟨v, h, rfl⟩
noncomputable def h_stringstrimRightASCII : HCon := fun xs hp => match xs, hp with
  | [.v (.string a0), .ptr 0 [] (0)], [(0, some ⟨true, .box (.fb 256 a1)⟩)] => .one (ByteArray × (Nat → Bool)) (s_stringstrimRightASCII a0 a1) l_stringstrimRightASCII
  | _, _ => HAns.fail
theorem f_stringstrimRightASCII_sound : HSound Tryd.prog 115 h_stringstrimRightASCII := by
  refine sound_goodH f_stringstrimRightASCII_ctx f_stringstrimRightASCII_LV 2 1 f_stringstrimRightASCII_hp0 Tryd.func115 (c := f_stringstrimRightASCII_c) (by kernel_rfl) (rv := f_stringstrimRightASCII_rv) (by kernel_rfl) (by kernel_rfl) (by kernel_rfl) (by kernel_rfl) fun xs hp => ?_
  unfold h_stringstrimRightASCII
  split
  · rename_i a0 a1; intro v h; exact ⟨rfl, ⟨rfl, rfl⟩, (f_stringstrimRightASCII_top a0 a1 _).trans (s_stringstrimRightASCII_ok a0 a1 v h)⟩
  · intro v h; cases h
noncomputable def m_stringstrimRightASCII : List A → List (Nat × Option Blk) → Bool
  | [.v (.string a0), .ptr 0 [] (0)], [(0, some ⟨true, .box (.fb 256 a1)⟩)] => true
  | _, _ => false

/-! ### function 114: strings.trimLeftASCII -/
noncomputable def f_stringstrimLeftASCII_c : Code := match Tryd.f114.body with | some c => c | none => .skip
noncomputable def f_stringstrimLeftASCII_X : Ctx := ⟨TT, phiOf [], noPsi, (xiOf [(136, h_stringsasciiSet_contains)])⟩
def f_stringstrimLeftASCII_LV : List (Nat × Keep) := [(1, ([0, 1], [], []))]
def f_stringstrimLeftASCII_rv : List ResultVar := [.tmp 4]
noncomputable def f_stringstrimLeftASCII_hp0 : List (Nat × Option Blk) := [(0, some ⟨true, .box (.fb 256 zB)⟩)]
noncomputable def f_stringstrimLeftASCII_L (r : HOut) : Nat → AS → Option HOut := L f_stringstrimLeftASCII_X (cnOfH 1 f_stringstrimLeftASCII_LV) f_stringstrimLeftASCII_c (K0H TT f_stringstrimLeftASCII_rv f_stringstrimLeftASCII_hp0) r
theorem f_stringstrimLeftASCII_ctx : CtxOK Tryd.prog f_stringstrimLeftASCII_X := ctx_ofH tab mix (l := []) trivial psi_no (xi_ok (l := [(136, h_stringsasciiSet_contains)]) ⟨⟨Tryd.call136, f_stringsasciiSet_contains_sound⟩, trivial⟩)
noncomputable def f_stringstrimLeftASCII_s1 (x0 : ByteArray) (x1 : (Nat → Bool)) : AS := ⟨[(0, .a (.v (.string x0))), (1, .a (.ptr 0 [] (0)))], [(0, some ⟨true, .box (.fb 256 x1)⟩)], 1⟩
noncomputable def l_stringstrimLeftASCII (r : (ByteArray × (Nat → Bool))) : HOut := ⟨.a (.v (.string r.1)), [(0, some ⟨true, .box (.fb 256 r.2)⟩)], 1⟩
theorem f_stringstrimLeftASCII_step1 (x0 : ByteArray) (x1 : (Nat → Bool)) (r : HOut) (h : (cond (decide (((x0.size : Nat) : Int) > 0)) (cond (inB 0 x0.size) (Option.bind (s_stringsasciiSet_contains (byteAt x0 0) x1) fun r1 => (cond (!r1.1) (some ⟨.a (.v (.string x0)), [(0, some ⟨true, .box (.fb 256 r1.2)⟩)], 1⟩) (cond (inS 1 (x0.size : Int) x0.size) (f_stringstrimLeftASCII_L r 1 (f_stringstrimLeftASCII_s1 (ByteArray.extract x0 1 (Int.toNat (x0.size : Int))) r1.2)) none))) none) (some ⟨.a (.v (.string x0)), [(0, some ⟨true, .box (.fb 256 x1)⟩)], 1⟩)) = some r) : f_stringstrimLeftASCII_L r 1 (f_stringstrimLeftASCII_s1 x0 x1) = some r :=
  step_of' h (by kernel_rfl)
noncomputable def f_stringstrimLeftASCII_n1 (x0 : ByteArray) (x1 : (Nat → Bool)) : Option ((ByteArray × (Nat → Bool)) ⊕ (ByteArray × (Nat → Bool))) := (cond (decide (((x0.size : Nat) : Int) > 0)) (cond (inB 0 x0.size) (Option.bind (s_stringsasciiSet_contains (byteAt x0 0) x1) fun r1 => (cond (!r1.1) (some (Sum.inr (x0, (r1.2)))) (cond (inS 1 (x0.size : Int) x0.size) (some (Sum.inl ((ByteArray.extract x0 1 (Int.toNat (x0.size : Int))), r1.2))) none))) none) (some (Sum.inr (x0, x1))))
noncomputable def f_stringstrimLeftASCII_run1 (x : (ByteArray × (Nat → Bool))) : Option (ByteArray × (Nat → Bool)) := iter (fun x => f_stringstrimLeftASCII_n1 x.1 x.2) FU x
noncomputable def f_stringstrimLeftASCII_G1 (r : HOut) (x : (ByteArray × (Nat → Bool))) : Prop := f_stringstrimLeftASCII_L r 1 (f_stringstrimLeftASCII_s1 x.1 x.2) = some r
noncomputable def f_stringstrimLeftASCII_S1 (r : HOut) : (ByteArray × (Nat → Bool)) → Prop := fun v => r = l_stringstrimLeftASCII v
theorem f_stringstrimLeftASCII_go1 (r : HOut) : ∀ x, sem (f_stringstrimLeftASCII_S1 r) (f_stringstrimLeftASCII_run1 x) → f_stringstrimLeftASCII_G1 r x :=
  fun x => iter_sound (step := fun x => f_stringstrimLeftASCII_n1 x.1 x.2) (fun x h => by
    unfold f_stringstrimLeftASCII_n1 at h
    exact f_stringstrimLeftASCII_step1 x.1 x.2 r ((sem_cond h (fun h => (sem_cond h (fun h => (sem_bind h fun r1 h => (sem_cond h (fun h => sem_got h fun q => some_eq q) (fun h => (sem_cond h (fun h => sem_got h fun q => q) (fun h => sem_none h)))))) (fun h => sem_none h))) (fun h => sem_got h fun q => some_eq q)))) FU x
noncomputable def s_stringstrimLeftASCII (a0 : ByteArray) (a1 : (Nat → Bool)) : Option (ByteArray × (Nat → Bool)) := (f_stringstrimLeftASCII_run1 (a0, a1))
theorem f_stringstrimLeftASCII_top (a0 : ByteArray) (a1 : (Nat → Bool)) (r : HOut) : ev f_stringstrimLeftASCII_X (lpc (cnOfH 1 f_stringstrimLeftASCII_LV) (f_stringstrimLeftASCII_L r)) f_stringstrimLeftASCII_c (K0H TT f_stringstrimLeftASCII_rv f_stringstrimLeftASCII_hp0) (enterH [.v (.string a0), .ptr 0 [] (0)] [(0, some ⟨true, .box (.fb 256 a1)⟩)]) = (f_stringstrimLeftASCII_L r 1 (f_stringstrimLeftASCII_s1 a0 a1)) := by kernel_rfl
theorem s_stringstrimLeftASCII_ok (a0 : ByteArray) (a1 : (Nat → Bool)) (v : (ByteArray × (Nat → Bool))) (h : s_stringstrimLeftASCII a0 a1 = some v) : (f_stringstrimLeftASCII_L (l_stringstrimLeftASCII v) 1 (f_stringstrimLeftASCII_s1 a0 a1)) = some (l_stringstrimLeftASCII v) := by
  unfold s_stringstrimLeftASCII at h
  have go : ∀ r, sem (fun v => r = l_stringstrimLeftASCII v) ((f_stringstrimLeftASCII_run1 (a0, a1))) → (f_stringstrimLeftASCII_L r 1 (f_stringstrimLeftASCII_s1 a0 a1)) = some r := fun r h => f_stringstrimLeftASCII_go1 r _ h
  exact go (l_stringstrimLeftASCII v) ⟨v, h, rfl⟩
noncomputable def h_stringstrimLeftASCII : HCon := fun xs hp => match xs, hp with
  | [.v (.string a0), .ptr 0 [] (0)], [(0, some ⟨true, .box (.fb 256 a1)⟩)] => .one (ByteArray × (Nat → Bool)) (s_stringstrimLeftASCII a0 a1) l_stringstrimLeftASCII
  | _, _ => HAns.fail
theorem f_stringstrimLeftASCII_sound : HSound Tryd.prog 114 h_stringstrimLeftASCII := by
  refine sound_goodH f_stringstrimLeftASCII_ctx f_stringstrimLeftASCII_LV 2 1 f_stringstrimLeftASCII_hp0 Tryd.func114 (c := f_stringstrimLeftASCII_c) (by kernel_rfl) (rv := f_stringstrimLeftASCII_rv) (by kernel_rfl) (by kernel_rfl) (by kernel_rfl) (by kernel_rfl) fun xs hp => ?_
  unfold h_stringstrimLeftASCII
  split
  · rename_i a0 a1; intro v h; exact ⟨rfl, ⟨rfl, rfl⟩, (f_stringstrimLeftASCII_top a0 a1 _).trans (s_stringstrimLeftASCII_ok a0 a1 v h)⟩
  · intro v h; cases h
noncomputable def m_stringstrimLeftASCII : List A → List (Nat × Option Blk) → Bool
  | [.v (.string a0), .ptr 0 [] (0)], [(0, some ⟨true, .box (.fb 256 a1)⟩)] => true
  | _, _ => false

/-! ### function 92: strings.Trim -/
noncomputable def f_stringsTrim_c : Code := match Tryd.f92.body with | some c => c | none => .skip
noncomputable def f_stringsTrim_X : Ctx := ⟨TT, phiOf [(111, c_stringstrimLeftByte), (112, c_stringstrimRightByte), (113, c_stringsmakeASCIISet)], noPsi, (xiOf [(114, h_stringstrimLeftASCII), (115, h_stringstrimRightASCII)])⟩
def f_stringsTrim_LV : List (Nat × Keep) := []
def f_stringsTrim_rv : List ResultVar := [.tmp 4]
noncomputable def f_stringsTrim_L (r : List A) : Nat → AS → Option (List A) := L f_stringsTrim_X (cnOf f_stringsTrim_LV) f_stringsTrim_c (K0 TT f_stringsTrim_rv) r
theorem f_stringsTrim_ctx : CtxOK Tryd.prog f_stringsTrim_X := ctx_ofH tab mix (l := [(111, c_stringstrimLeftByte), (112, c_stringstrimRightByte), (113, c_stringsmakeASCIISet)]) ⟨⟨Tryd.call111, f_stringstrimLeftByte_sound⟩, ⟨Tryd.call112, f_stringstrimRightByte_sound⟩, ⟨Tryd.call113, f_stringsmakeASCIISet_sound⟩, trivial⟩ psi_no (xi_ok (l := [(114, h_stringstrimLeftASCII), (115, h_stringstrimRightASCII)]) ⟨⟨Tryd.call114, f_stringstrimLeftASCII_sound⟩, ⟨Tryd.call115, f_stringstrimRightASCII_sound⟩, trivial⟩)
noncomputable def s_stringsTrim (a0 : ByteArray) (a1 : ByteArray) : Option ByteArray := (cond (a0.toList == (⟨#[]⟩ : ByteArray).toList) (some a0) (cond (a1.toList == (⟨#[]⟩ : ByteArray).toList) (some a0) (cond (((a1.size : Nat) : Int) == 1) (cond (inB 0 a1.size) (cond (decide ((byteAt a1 0) < 128)) (cond (inB 0 a1.size) (Option.bind (s_stringstrimRightByte a0 (byteAt a1 0)) fun r1 => (cond (inB 0 a1.size) (Option.bind (s_stringstrimLeftByte r1 (byteAt a1 0)) fun r2 => (some r2)) none)) none) (Option.bind (s_stringsmakeASCIISet a1) fun r3 => (cond r3.2 (Option.bind (s_stringstrimRightASCII a0 (r3.1)) fun r4 => (Option.bind (s_stringstrimLeftASCII (r4.1) (r4.2)) fun r5 => (some (r5.1)))) none))) none) (Option.bind (s_stringsmakeASCIISet a1) fun r6 => (cond r6.2 (Option.bind (s_stringstrimRightASCII a0 (r6.1)) fun r7 => (Option.bind (s_stringstrimLeftASCII (r7.1) (r7.2)) fun r8 => (some (r8.1)))) none)))))
theorem f_stringsTrim_top (a0 : ByteArray) (a1 : ByteArray) (r : List A) : ev f_stringsTrim_X (lpc (cnOf f_stringsTrim_LV) (f_stringsTrim_L r)) f_stringsTrim_c (K0 TT f_stringsTrim_rv) (enter [.v (.string a0), .v (.string a1)]) = (cond (a0.toList == (⟨#[]⟩ : ByteArray).toList) (some [.v (.string a0)]) (cond (a1.toList == (⟨#[]⟩ : ByteArray).toList) (some [.v (.string a0)]) (cond (((a1.size : Nat) : Int) == 1) (cond (inB 0 a1.size) (cond (decide ((byteAt a1 0) < 128)) (cond (inB 0 a1.size) (Option.bind (s_stringstrimRightByte a0 (byteAt a1 0)) fun r1 => (cond (inB 0 a1.size) (Option.bind (s_stringstrimLeftByte r1 (byteAt a1 0)) fun r2 => (some [.v (.string r2)])) none)) none) (Option.bind (s_stringsmakeASCIISet a1) fun r3 => (cond r3.2 (Option.bind (s_stringstrimRightASCII a0 (r3.1)) fun r4 => (Option.bind (s_stringstrimLeftASCII (r4.1) (r4.2)) fun r5 => (some [.v (.string r5.1)]))) none))) none) (Option.bind (s_stringsmakeASCIISet a1) fun r6 => (cond r6.2 (Option.bind (s_stringstrimRightASCII a0 (r6.1)) fun r7 => (Option.bind (s_stringstrimLeftASCII (r7.1) (r7.2)) fun r8 => (some [.v (.string r8.1)]))) none))))) := by kernel_rfl
noncomputable def l_stringsTrim (r : ByteArray) : List A := [.v (.string r)]
theorem s_stringsTrim_ok (a0 : ByteArray) (a1 : ByteArray) (v : ByteArray) (h : s_stringsTrim a0 a1 = some v) : (cond (a0.toList == (⟨#[]⟩ : ByteArray).toList) (some [.v (.string a0)]) (cond (a1.toList == (⟨#[]⟩ : ByteArray).toList) (some [.v (.string a0)]) (cond (((a1.size : Nat) : Int) == 1) (cond (inB 0 a1.size) (cond (decide ((byteAt a1 0) < 128)) (cond (inB 0 a1.size) (Option.bind (s_stringstrimRightByte a0 (byteAt a1 0)) fun r1 => (cond (inB 0 a1.size) (Option.bind (s_stringstrimLeftByte r1 (byteAt a1 0)) fun r2 => (some [.v (.string r2)])) none)) none) (Option.bind (s_stringsmakeASCIISet a1) fun r3 => (cond r3.2 (Option.bind (s_stringstrimRightASCII a0 (r3.1)) fun r4 => (Option.bind (s_stringstrimLeftASCII (r4.1) (r4.2)) fun r5 => (some [.v (.string r5.1)]))) none))) none) (Option.bind (s_stringsmakeASCIISet a1) fun r6 => (cond r6.2 (Option.bind (s_stringstrimRightASCII a0 (r6.1)) fun r7 => (Option.bind (s_stringstrimLeftASCII (r7.1) (r7.2)) fun r8 => (some [.v (.string r8.1)]))) none))))) = some (l_stringsTrim v) := by
  have e : (cond (a0.toList == (⟨#[]⟩ : ByteArray).toList) (some [.v (.string a0)]) (cond (a1.toList == (⟨#[]⟩ : ByteArray).toList) (some [.v (.string a0)]) (cond (((a1.size : Nat) : Int) == 1) (cond (inB 0 a1.size) (cond (decide ((byteAt a1 0) < 128)) (cond (inB 0 a1.size) (Option.bind (s_stringstrimRightByte a0 (byteAt a1 0)) fun r1 => (cond (inB 0 a1.size) (Option.bind (s_stringstrimLeftByte r1 (byteAt a1 0)) fun r2 => (some [.v (.string r2)])) none)) none) (Option.bind (s_stringsmakeASCIISet a1) fun r3 => (cond r3.2 (Option.bind (s_stringstrimRightASCII a0 (r3.1)) fun r4 => (Option.bind (s_stringstrimLeftASCII (r4.1) (r4.2)) fun r5 => (some [.v (.string r5.1)]))) none))) none) (Option.bind (s_stringsmakeASCIISet a1) fun r6 => (cond r6.2 (Option.bind (s_stringstrimRightASCII a0 (r6.1)) fun r7 => (Option.bind (s_stringstrimLeftASCII (r7.1) (r7.2)) fun r8 => (some [.v (.string r8.1)]))) none))))) = Option.map l_stringsTrim (s_stringsTrim a0 a1) := by
    unfold s_stringsTrim
    exact (cond_app (Option.map l_stringsTrim) rfl (cond_app (Option.map l_stringsTrim) rfl (cond_app (Option.map l_stringsTrim) (cond_app (Option.map l_stringsTrim) (cond_app (Option.map l_stringsTrim) (cond_app (Option.map l_stringsTrim) (bind_app fun _ => (cond_app (Option.map l_stringsTrim) (bind_app fun _ => rfl) rfl)) rfl) (bind_app fun _ => (cond_app (Option.map l_stringsTrim) (bind_app fun _ => (bind_app fun _ => rfl)) rfl))) rfl) (bind_app fun _ => (cond_app (Option.map l_stringsTrim) (bind_app fun _ => (bind_app fun _ => rfl)) rfl)))))
  rw [e, h]; rfl
noncomputable def c_stringsTrim : List A → ACall
  | [.v (.string a0), .v (.string a1)] => ⟨ByteArray, s_stringsTrim a0 a1, fun r => .one (.v (.string r))⟩
  | _ => ACall.fail
theorem f_stringsTrim_sound : Sound Tryd.prog 92 c_stringsTrim := by
  refine sound_good f_stringsTrim_ctx f_stringsTrim_LV 2 Tryd.func92 (c := f_stringsTrim_c) (by kernel_rfl) (rv := f_stringsTrim_rv) (by kernel_rfl) (by kernel_rfl) (by kernel_rfl) (by kernel_rfl) fun rs => ?_
  unfold c_stringsTrim
  split
  · rename_i a0 a1; intro v h; exact ⟨rfl, l_stringsTrim v, rfl, (f_stringsTrim_top a0 a1 _).trans (s_stringsTrim_ok a0 a1 v h)⟩
  · intro v h; cases h
end Go.RR
