/- Fields of pictures. -/
import Derived.Test.YtbmaolhjplapoaaGreatDoorFa
import Derived.Test.YtbmaolhjplapoaaGreatDoorFs
import Derived.Test.YtbmaolhjplapoaaGreatDoorR3
set_option linter.unusedVariables false
set_option linter.unusedSimpArgs false
set_option linter.unusedSectionVars false
set_option maxRecDepth 100000
namespace Go.RR
open Go Go.Proofs
noncomputable def f_q0k_c := codeC Tryz.f205
noncomputable def f_q0k_X : Ctx := ⟨TT, phiOf [], noPsi, noXi⟩
def f_q0k_LV : List (Nat × Keep) := [(2, ([0, 1, 7, 8], [], []))]
def f_q0k_rv : List ResultVar := [.tmp 4]
noncomputable def f_q0k_L := Lq f_q0k_X f_q0k_LV f_q0k_c f_q0k_rv
theorem f_q0k_ctx : CtxOK Tryz.prog f_q0k_X := ctx_of tab mix trivial
noncomputable def f_q0k_s2 (x0 x1 x2 : Int) (x3 : List Int) : AS := ⟨[(0, .a (.sl 0)), (1, .a (.v (.int .i64 x0))), (7, .a (.v (.int .i64 x1))), (8, .a (.v (.int .i64 x2)))], [(0, some ⟨false, .arr (.one (.i .i64)) x3⟩)], 1⟩
noncomputable def l_q0k (r : Int) : List A := [.v (.int .i64 r)]
theorem f_q0k_step2 (x0 x1 x2 : Int) (x3 : List Int) (r : List A) (h : (cond (decide (x2 < x1)) (cond (inB x2 (List.length x3)) (cond (x0 == (List.getD x3 (Int.toNat x2) 0)) (some [.v (.int .i64 x2)]) (f_q0k_L r 2 (f_q0k_s2 x0 x1 (IntKind.wrap .i64 (x2 + 1)) x3))) none) (some [.v (.int .i64 (-1))])) = some r) : f_q0k_L r 2 (f_q0k_s2 x0 x1 x2 x3) = some r :=
 step_of' h (by kernel_rfl)
noncomputable def f_q0k_n2 (x0 x1 x2 : Int) (x3 : List Int) : Option ((Int × Int × Int × (List Int)) ⊕ Int) := (cond (decide (x2 < x1)) (cond (inB x2 (List.length x3)) (cond (x0 == (List.getD x3 (Int.toNat x2) 0)) (some (Sum.inr x2)) (some (Sum.inl (x0, x1, (IntKind.wrap .i64 (x2 + 1)), x3)))) none) (some (Sum.inr (-1))))
noncomputable def f_q0k_run2 (x : (Int × Int × Int × (List Int))) : Option Int := iter (fun x => f_q0k_n2 x.1 x.2.1 x.2.2.1 x.2.2.2) FU x
noncomputable def f_q0k_G2 (r : List A) (x : (Int × Int × Int × (List Int))) : Prop := f_q0k_L r 2 (f_q0k_s2 x.1 x.2.1 x.2.2.1 x.2.2.2) = some r
noncomputable def f_q0k_S2 (r : List A) : Int → Prop := fun v => r = l_q0k v
theorem f_q0k_go2 (r : List A) : ∀ x, sem (f_q0k_S2 r) (f_q0k_run2 x) → f_q0k_G2 r x :=
 fun x => iter_sound (step := fun x => f_q0k_n2 x.1 x.2.1 x.2.2.1 x.2.2.2) (fun x h => by
  unfold f_q0k_n2 at h
  exact f_q0k_step2 x.1 x.2.1 x.2.2.1 x.2.2.2 r ((sem_cond h (fun h => (sem_cond h (fun h => (sem_cond h (fun h => sem_got h fun q => some_eq q) (fun h => sem_got h fun q => q))) (fun h => sem_none h))) (fun h => sem_got h fun q => some_eq q)))) FU x
noncomputable def s_q0k (a0 : List Int) (a1 : Int) : Option Int := (f_q0k_run2 (a1, ((List.length a0 : Nat) : Int), 0, a0))
theorem f_q0k_top (a0 : List Int) (a1 : Int) (r : List A) : Tq f_q0k_X f_q0k_LV f_q0k_c f_q0k_rv r [.lst (.one (.i .i64)) a0, .v (.int .i64 a1)] = (f_q0k_L r 2 (f_q0k_s2 a1 ((List.length a0 : Nat) : Int) 0 a0)) := by kernel_rfl
theorem s_q0k_ok (a0 : List Int) (a1 v : Int) (h : s_q0k a0 a1 = some v) : (f_q0k_L (l_q0k v) 2 (f_q0k_s2 a1 ((List.length a0 : Nat) : Int) 0 a0)) = some (l_q0k v) := by
 replace h : sem (fun w => l_q0k v = l_q0k w) (s_q0k a0 a1) := ⟨v, h, rfl⟩
 unfold s_q0k at h
 exact f_q0k_go2 (l_q0k v) _ h
noncomputable def c_q0k : List A → ACall
 | [.lst (.one (.i .i64)) a0, .v (.int .i64 a1)] => ⟨Int, s_q0k a0 a1, fun r => .one (.v (.int .i64 r))⟩
 | _ => ACall.fail
theorem f_q0k_sound : Sound Tryz.prog 205 c_q0k := by
 refine good f_q0k_ctx f_q0k_LV f_q0k_c f_q0k_rv 2 Tryz.func205 fun rs => ?_
 unfold c_q0k
 split
 ·rename_i a0 a1; intro v h; exact ⟨rfl, l_q0k v, rfl, (f_q0k_top a0 a1 _).trans (s_q0k_ok a0 a1 v h)⟩
 ·intro v h; cases h
noncomputable def f_q0c_c := codeC Tryz.f176
noncomputable def f_q0c_X : Ctx := ⟨TT, phiOf [(205, c_q0k)], noPsi, noXi⟩
def f_q0c_LV : List (Nat × Keep) := []
def f_q0c_rv : List ResultVar := [.tmp 4]
theorem f_q0c_ctx : CtxOK Tryz.prog f_q0c_X := ctx_of tab mix ⟨⟨Tryz.call205, f_q0k_sound⟩, trivial⟩
noncomputable def s_q0c (a0 : List Int) (a1 : Int) : Option Bool := (Option.bind (s_q0k a0 a1) fun r1 => (some (decide (r1 ≥ 0))))
theorem f_q0c_top (a0 : List Int) (a1 : Int) (r : List A) : Tq f_q0c_X f_q0c_LV f_q0c_c f_q0c_rv r [.lst (.one (.i .i64)) a0, .v (.int .i64 a1)] = (Option.bind (s_q0k a0 a1) fun r1 => (some [.v (.bool (decide (r1 ≥ 0)))])) := by kernel_rfl
noncomputable def l_q0c (r : Bool) : List A := [.v (.bool r)]
theorem s_q0c_ok (a0 : List Int) (a1 : Int) (v : Bool) (h : s_q0c a0 a1 = some v) : (Option.bind (s_q0k a0 a1) fun r1 => (some [.v (.bool (decide (r1 ≥ 0)))])) = some (l_q0c v) := by
 refine Eq.trans (b := Option.map l_q0c (s_q0c a0 a1)) ?_ (by rw [h]; rfl)
 unfold s_q0c
 exact (bind_app fun _ => rfl)
noncomputable def c_q0c : List A → ACall
 | [.lst (.one (.i .i64)) a0, .v (.int .i64 a1)] => ⟨Bool, s_q0c a0 a1, fun r => .one (.v (.bool r))⟩
 | _ => ACall.fail
theorem f_q0c_sound : Sound Tryz.prog 176 c_q0c := by
 refine good f_q0c_ctx f_q0c_LV f_q0c_c f_q0c_rv 2 Tryz.func176 fun rs => ?_
 unfold c_q0c
 split
 ·rename_i a0 a1; intro v h; exact ⟨rfl, l_q0c v, rfl, (f_q0c_top a0 a1 _).trans (s_q0c_ok a0 a1 v h)⟩
 ·intro v h; cases h
noncomputable def f_q0f_c := codeC Tryz.f185
noncomputable def f_q0f_X : Ctx := ⟨TT, phiOf [(176, c_q0c), (187, c_q1u)], (psiOf [(207, u_gSort)]), noXi⟩
def f_q0f_LV : List (Nat × Keep) := [(3, ([3, 7, 8], [], [])), (6, ([3, 7, 8, 30, 31, 32], [], []))]
def f_q0f_rv : List ResultVar := [.tmp 6]
noncomputable def f_q0f_L := Lq f_q0f_X f_q0f_LV f_q0f_c f_q0f_rv
theorem f_q0f_ctx : CtxOK Tryz.prog f_q0f_X := ctx_ofH tab mix (l := [(176, c_q0c), (187, c_q1u)]) ⟨⟨Tryz.call176, f_q0c_sound⟩, ⟨Tryz.call187, f_q1u_sound⟩, trivial⟩ (psi_ok (l := [(207, u_gSort)]) ⟨⟨Tryz.call207, f_gSort_sound⟩, trivial⟩) xi_no
noncomputable def f_q0f_s3 (x0 x1 x2 : Int) (x3 : Nat → Int) (x4 : List Int) : AS := ⟨[(3, .a (.ptr 0 [] (0))), (7, .a (.sl 1)), (8, .a (.v (.int .i64 x0)))], [(0, some ⟨true, .box (.rc [.v (.int .i8 x1), .v (.int .i8 x2), .fa 144 .u8 x3])⟩), (1, some ⟨true, .arr (.one (.i .i64)) x4⟩)], 2⟩
noncomputable def f_q0f_s6 (x0 x1 x2 x3 x4 : Int) (x5 : Nat → Int) (x6 x7 : List Int) : AS := ⟨[(3, .a (.ptr 0 [] (0))), (7, .a (.sl 1)), (8, .a (.v (.int .i64 x0))), (30, .a (.sl 2)), (31, .a (.v (.int .i64 x1))), (32, .a (.v (.int .i64 x2)))], [(0, some ⟨true, .box (.rc [.v (.int .i8 x3), .v (.int .i8 x4), .fa 144 .u8 x5])⟩), (1, some ⟨true, .arr (.one (.i .i64)) x6⟩), (2, some ⟨true, .arr (.one (.i .i64)) x7⟩)], 3⟩
noncomputable def l_q0f (r : List Int) : List A := [.lst (.one (.i .i64)) r]
theorem f_q0f_step6 (x0 x1 x2 x3 x4 : Int) (x5 : Nat → Int) (x6 x7 : List Int) (r : List A) (h : (cond (decide (x2 < x1)) (cond (inB x2 (List.length x7)) (cond (inB (List.getD x7 (Int.toNat x2) 0) 144) (cond (inB x0 (List.length x6)) (cond (inB (List.getD x6 (Int.toNat x0) 0) 144) (cond ((x5 (Int.toNat (List.getD x7 (Int.toNat x2) 0))) == (x5 (Int.toNat (List.getD x6 (Int.toNat x0) 0)))) (Option.bind (s_q0c x6 (List.getD x7 (Int.toNat x2) 0)) fun r3 => (cond (!r3) (cond (fits ((List.length (x6 : List Int) + List.length ([(List.getD x7 (Int.toNat x2) 0)] : List Int)) * 8)) (f_q0f_L r 6 (f_q0f_s6 x0 x1 (IntKind.wrap .i64 (x2 + 1)) x3 x4 x5 (x6 ++ [(List.getD x7 (Int.toNat x2) 0)]) x7)) none) (f_q0f_L r 6 (f_q0f_s6 x0 x1 (IntKind.wrap .i64 (x2 + 1)) x3 x4 x5 x6 x7)))) (f_q0f_L r 6 (f_q0f_s6 x0 x1 (IntKind.wrap .i64 (x2 + 1)) x3 x4 x5 x6 x7))) none) none) none) none) (f_q0f_L r 3 (f_q0f_s3 (IntKind.wrap .i64 (x0 + 1)) x3 x4 x5 x6))) = some r) : f_q0f_L r 6 (f_q0f_s6 x0 x1 x2 x3 x4 x5 x6 x7) = some r :=
 step_of' h (by kernel_rfl)
noncomputable def f_q0f_n6 (x0 x1 x2 x3 x4 : Int) (x5 : Nat → Int) (x6 x7 : List Int) : Option ((Int × Int × Int × Int × Int × (Nat → Int) × (List Int) × (List Int)) ⊕ ((Int × Int × Int × (Nat → Int) × (List Int)) ⊕ (List Int))) := (cond (decide (x2 < x1)) (cond (inB x2 (List.length x7)) (cond (inB (List.getD x7 (Int.toNat x2) 0) 144) (cond (inB x0 (List.length x6)) (cond (inB (List.getD x6 (Int.toNat x0) 0) 144) (cond ((x5 (Int.toNat (List.getD x7 (Int.toNat x2) 0))) == (x5 (Int.toNat (List.getD x6 (Int.toNat x0) 0)))) (Option.bind (s_q0c x6 (List.getD x7 (Int.toNat x2) 0)) fun r3 => (cond (!r3) (cond (fits ((List.length (x6 : List Int) + List.length ([(List.getD x7 (Int.toNat x2) 0)] : List Int)) * 8)) (some (Sum.inl (x0, x1, (IntKind.wrap .i64 (x2 + 1)), x3, x4, x5, (x6 ++ [(List.getD x7 (Int.toNat x2) 0)]), x7))) none) (some (Sum.inl (x0, x1, (IntKind.wrap .i64 (x2 + 1)), x3, x4, x5, x6, x7))))) (some (Sum.inl (x0, x1, (IntKind.wrap .i64 (x2 + 1)), x3, x4, x5, x6, x7)))) none) none) none) none) (some (Sum.inr (Sum.inl ((IntKind.wrap .i64 (x0 + 1)), x3, x4, x5, x6)))))
noncomputable def f_q0f_run6 (x : (Int × Int × Int × Int × Int × (Nat → Int) × (List Int) × (List Int))) : Option ((Int × Int × Int × (Nat → Int) × (List Int)) ⊕ (List Int)) := iter (fun x => f_q0f_n6 x.1 x.2.1 x.2.2.1 x.2.2.2.1 x.2.2.2.2.1 x.2.2.2.2.2.1 x.2.2.2.2.2.2.1 x.2.2.2.2.2.2.2) FU x
noncomputable def f_q0f_G6 (r : List A) (x : (Int × Int × Int × Int × Int × (Nat → Int) × (List Int) × (List Int))) : Prop := f_q0f_L r 6 (f_q0f_s6 x.1 x.2.1 x.2.2.1 x.2.2.2.1 x.2.2.2.2.1 x.2.2.2.2.2.1 x.2.2.2.2.2.2.1 x.2.2.2.2.2.2.2) = some r
theorem f_q0f_step3 (x0 x1 x2 : Int) (x3 : Nat → Int) (x4 : List Int) (r : List A) (h : (cond (decide (x0 < ((List.length x4 : Nat) : Int))) (cond (inB x0 (List.length x4)) (Option.bind (s_q1u (List.getD x4 (Int.toNat x0) 0) x1 x2) fun r1 => (f_q0f_L r 6 (f_q0f_s6 x0 ((List.length r1 : Nat) : Int) 0 x1 x2 x3 x4 r1))) none) (Option.bind (s_gSort x4) fun r2 => (some [.lst (.one (.i .i64)) (r2)]))) = some r) : f_q0f_L r 3 (f_q0f_s3 x0 x1 x2 x3 x4) = some r :=
 step_of' h (by kernel_rfl)
noncomputable def f_q0f_n3 (x0 x1 x2 : Int) (x3 : Nat → Int) (x4 : List Int) : Option ((Int × Int × Int × (Nat → Int) × (List Int)) ⊕ (List Int)) := (cond (decide (x0 < ((List.length x4 : Nat) : Int))) (cond (inB x0 (List.length x4)) (Option.bind (s_q1u (List.getD x4 (Int.toNat x0) 0) x1 x2) fun r1 => (f_q0f_run6 (x0, ((List.length r1 : Nat) : Int), 0, x1, x2, x3, x4, r1))) none) (Option.bind (s_gSort x4) fun r2 => (some (Sum.inr (r2)))))
noncomputable def f_q0f_run3 (x : (Int × Int × Int × (Nat → Int) × (List Int))) : Option (List Int) := iter (fun x => f_q0f_n3 x.1 x.2.1 x.2.2.1 x.2.2.2.1 x.2.2.2.2) FU x
noncomputable def f_q0f_G3 (r : List A) (x : (Int × Int × Int × (Nat → Int) × (List Int))) : Prop := f_q0f_L r 3 (f_q0f_s3 x.1 x.2.1 x.2.2.1 x.2.2.2.1 x.2.2.2.2) = some r
noncomputable def f_q0f_S3 (r : List A) : (List Int) → Prop := fun v => r = l_q0f v
noncomputable def f_q0f_S6 (r : List A) : ((Int × Int × Int × (Nat → Int) × (List Int)) ⊕ (List Int)) → Prop := goesOn (f_q0f_G3 r) (f_q0f_S3 r)
theorem f_q0f_go6 (r : List A) : ∀ x, sem (f_q0f_S6 r) (f_q0f_run6 x) → f_q0f_G6 r x :=
 fun x => iter_sound (step := fun x => f_q0f_n6 x.1 x.2.1 x.2.2.1 x.2.2.2.1 x.2.2.2.2.1 x.2.2.2.2.2.1 x.2.2.2.2.2.2.1 x.2.2.2.2.2.2.2) (fun x h => by
  unfold f_q0f_n6 at h
  exact f_q0f_step6 x.1 x.2.1 x.2.2.1 x.2.2.2.1 x.2.2.2.2.1 x.2.2.2.2.2.1 x.2.2.2.2.2.2.1 x.2.2.2.2.2.2.2 r ((sem_cond h (fun h => (sem_cond h (fun h => (sem_cond h (fun h => (sem_cond h (fun h => (sem_cond h (fun h => (sem_cond h (fun h => (sem_bind h fun r3 h => (sem_cond h (fun h => (sem_cond h (fun h => sem_got h fun q => q) (fun h => sem_none h))) (fun h => sem_got h fun q => q)))) (fun h => sem_got h fun q => q))) (fun h => sem_none h))) (fun h => sem_none h))) (fun h => sem_none h))) (fun h => sem_none h))) (fun h => sem_got h fun q => q)))) FU x
theorem f_q0f_go3 (r : List A) : ∀ x, sem (f_q0f_S3 r) (f_q0f_run3 x) → f_q0f_G3 r x :=
 fun x => iter_sound (step := fun x => f_q0f_n3 x.1 x.2.1 x.2.2.1 x.2.2.2.1 x.2.2.2.2) (fun x h => by
  unfold f_q0f_n3 at h
  exact f_q0f_step3 x.1 x.2.1 x.2.2.1 x.2.2.2.1 x.2.2.2.2 r ((sem_cond h (fun h => (sem_cond h (fun h => (sem_bind h fun r1 h => f_q0f_go6 r _ h)) (fun h => sem_none h))) (fun h => (sem_bind h fun r2 h => sem_got h fun q => some_eq q))))) FU x
noncomputable def s_q0f (a0 a1 : Int) (a2 : Nat → Int) (a3 a4 : Int) : Option (List Int) := (f_q0f_run3 (0, a0, a1, a2, [(IntKind.wrap .i64 (a3 + (IntKind.wrap .i64 (12 * a4))))]))
theorem f_q0f_top (a0 a1 : Int) (a2 : Nat → Int) (a3 a4 : Int) (r : List A) : Tq f_q0f_X f_q0f_LV f_q0f_c f_q0f_rv r [.rc [.v (.int .i8 a0), .v (.int .i8 a1), .fa 144 .u8 a2], .v (.int .i64 a3), .v (.int .i64 a4)] = (f_q0f_L r 3 (f_q0f_s3 0 a0 a1 a2 [(IntKind.wrap .i64 (a3 + (IntKind.wrap .i64 (12 * a4))))])) := by kernel_rfl
theorem s_q0f_ok (a0 a1 : Int) (a2 : Nat → Int) (a3 a4 : Int) (v : List Int) (h : s_q0f a0 a1 a2 a3 a4 = some v) : (f_q0f_L (l_q0f v) 3 (f_q0f_s3 0 a0 a1 a2 [(IntKind.wrap .i64 (a3 + (IntKind.wrap .i64 (12 * a4))))])) = some (l_q0f v) := by
 replace h : sem (fun w => l_q0f v = l_q0f w) (s_q0f a0 a1 a2 a3 a4) := ⟨v, h, rfl⟩
 unfold s_q0f at h
 exact f_q0f_go3 (l_q0f v) _ h
noncomputable def c_q0f : List A → ACall
 | [.rc [.v (.int .i8 a0), .v (.int .i8 a1), .fa 144 .u8 a2], .v (.int .i64 a3), .v (.int .i64 a4)] => ⟨(List Int), s_q0f a0 a1 a2 a3 a4, fun r => .one (.lst (.one (.i .i64)) r)⟩
 | _ => ACall.fail
theorem f_q0f_sound : Sound Tryz.prog 185 c_q0f := by
 refine good f_q0f_ctx f_q0f_LV f_q0f_c f_q0f_rv 3 Tryz.func185 fun rs => ?_
 unfold c_q0f
 split
 ·rename_i a0 a1 a2 a3 a4; intro v h; exact ⟨rfl, l_q0f v, rfl, (f_q0f_top a0 a1 a2 a3 a4 _).trans (s_q0f_ok a0 a1 a2 a3 a4 v h)⟩
 ·intro v h; cases h
noncomputable def f_q1e_c := codeC Tryz.f189
noncomputable def f_q1e_X : Ctx := ⟨TT, phiOf [(154, c_q16)], noPsi, noXi⟩
def f_q1e_LV : List (Nat × Keep) := [(5, ([0, 1, 4, 5, 6, 7], [], [])), (9, ([0, 1, 4, 5, 6, 7, 8, 9], [], []))]
def f_q1e_rv : List ResultVar := [.cell 4 194]
noncomputable def f_q1e_L := Lq f_q1e_X f_q1e_LV f_q1e_c f_q1e_rv
theorem f_q1e_ctx : CtxOK Tryz.prog f_q1e_X := ctx_of tab mix ⟨⟨Tryz.call154, f_q16_sound⟩, trivial⟩
noncomputable def f_q1e_s5 (x0 x1 x2 x3 : Int) (x4 : Nat → Int) (x5 : (Nat → Bool)) (x6 : (Nat → Bool)) (x7 : List Int) : AS := ⟨[(0, .a (.ptr 0 [] (0))), (1, .a (.v (.int .i64 x0))), (4, .a (.ptr 1 [] (0))), (5, .a (.ptr 2 [] (0))), (6, .a (.sl 3)), (7, .a (.v (.int .i64 x1)))], [(0, some ⟨false, .box (.rc [.v (.int .i8 x2), .v (.int .i8 x3), .fa 144 .u8 x4])⟩), (1, some ⟨true, .box (.fb 144 x5)⟩), (2, some ⟨true, .box (.fb 144 x6)⟩), (3, some ⟨true, .arr (.one (.i .i64)) x7⟩)], 4⟩
noncomputable def f_q1e_s9 (x0 x1 x2 x3 x4 : Int) (x5 : Nat → Int) (x6 : (Nat → Bool)) (x7 : (Nat → Bool)) (x8 x9 : List Int) : AS := ⟨[(0, .a (.ptr 0 [] (0))), (1, .a (.v (.int .i64 x0))), (4, .a (.ptr 1 [] (0))), (5, .a (.ptr 2 [] (0))), (6, .a (.sl 3)), (7, .a (.v (.int .i64 x1))), (8, .a (.sl 4)), (9, .a (.v (.int .i64 x2)))], [(0, some ⟨false, .box (.rc [.v (.int .i8 x3), .v (.int .i8 x4), .fa 144 .u8 x5])⟩), (1, some ⟨true, .box (.fb 144 x6)⟩), (2, some ⟨true, .box (.fb 144 x7)⟩), (3, some ⟨true, .arr (.one (.i .i64)) x8⟩), (4, some ⟨true, .arr (.one (.i .i64)) x9⟩)], 5⟩
noncomputable def l_q1e (r : (Nat → Bool)) : List A := [.fb 144 r]
theorem f_q1e_step9 (x0 x1 x2 x3 x4 : Int) (x5 : Nat → Int) (x6 : (Nat → Bool)) (x7 : (Nat → Bool)) (x8 x9 : List Int) (r : List A) (h : (cond (decide (x2 < ((List.length x9 : Nat) : Int))) (cond (inB x2 (List.length x9)) (cond (inB (List.getD x9 (Int.toNat x2) 0) 144) (cond (!(x7 (Int.toNat (List.getD x9 (Int.toNat x2) 0)))) (cond (inB x2 (List.length x9)) (cond (inB (List.getD x9 (Int.toNat x2) 0) 144) (cond (inB x0 144) (cond ((x5 (Int.toNat (List.getD x9 (Int.toNat x2) 0))) == (x5 (Int.toNat x0))) (cond (inB x2 (List.length x9)) (cond (inB (List.getD x9 (Int.toNat x2) 0) 144) (cond (inB x2 (List.length x9)) (cond (fits ((List.length (x8 : List Int) + List.length ([(List.getD x9 (Int.toNat x2) 0)] : List Int)) * 8)) (f_q1e_L r 9 (f_q1e_s9 x0 x1 (IntKind.wrap .i64 (x2 + 1)) x3 x4 x5 x6 (updb x7 (Int.toNat (List.getD x9 (Int.toNat x2) 0)) true) (x8 ++ [(List.getD x9 (Int.toNat x2) 0)]) x9)) none) none) none) none) (f_q1e_L r 9 (f_q1e_s9 x0 x1 (IntKind.wrap .i64 (x2 + 1)) x3 x4 x5 x6 x7 x8 x9))) none) none) none) (f_q1e_L r 9 (f_q1e_s9 x0 x1 (IntKind.wrap .i64 (x2 + 1)) x3 x4 x5 x6 x7 x8 x9))) none) none) (f_q1e_L r 5 (f_q1e_s5 x0 (IntKind.wrap .i64 (x1 + 1)) x3 x4 x5 x6 x7 x8))) = some r) : f_q1e_L r 9 (f_q1e_s9 x0 x1 x2 x3 x4 x5 x6 x7 x8 x9) = some r :=
 step_of' h (by kernel_rfl)
noncomputable def f_q1e_n9 (x0 x1 x2 x3 x4 : Int) (x5 : Nat → Int) (x6 : (Nat → Bool)) (x7 : (Nat → Bool)) (x8 x9 : List Int) : Option ((Int × Int × Int × Int × Int × (Nat → Int) × (Nat → Bool) × (Nat → Bool) × (List Int) × (List Int)) ⊕ ((Int × Int × Int × Int × (Nat → Int) × (Nat → Bool) × (Nat → Bool) × (List Int)) ⊕ (Nat → Bool))) := (cond (decide (x2 < ((List.length x9 : Nat) : Int))) (cond (inB x2 (List.length x9)) (cond (inB (List.getD x9 (Int.toNat x2) 0) 144) (cond (!(x7 (Int.toNat (List.getD x9 (Int.toNat x2) 0)))) (cond (inB x2 (List.length x9)) (cond (inB (List.getD x9 (Int.toNat x2) 0) 144) (cond (inB x0 144) (cond ((x5 (Int.toNat (List.getD x9 (Int.toNat x2) 0))) == (x5 (Int.toNat x0))) (cond (inB x2 (List.length x9)) (cond (inB (List.getD x9 (Int.toNat x2) 0) 144) (cond (inB x2 (List.length x9)) (cond (fits ((List.length (x8 : List Int) + List.length ([(List.getD x9 (Int.toNat x2) 0)] : List Int)) * 8)) (some (Sum.inl (x0, x1, (IntKind.wrap .i64 (x2 + 1)), x3, x4, x5, x6, (updb x7 (Int.toNat (List.getD x9 (Int.toNat x2) 0)) true), (x8 ++ [(List.getD x9 (Int.toNat x2) 0)]), x9))) none) none) none) none) (some (Sum.inl (x0, x1, (IntKind.wrap .i64 (x2 + 1)), x3, x4, x5, x6, x7, x8, x9)))) none) none) none) (some (Sum.inl (x0, x1, (IntKind.wrap .i64 (x2 + 1)), x3, x4, x5, x6, x7, x8, x9)))) none) none) (some (Sum.inr (Sum.inl (x0, (IntKind.wrap .i64 (x1 + 1)), x3, x4, x5, x6, x7, x8)))))
noncomputable def f_q1e_run9 (x : (Int × Int × Int × Int × Int × (Nat → Int) × (Nat → Bool) × (Nat → Bool) × (List Int) × (List Int))) : Option ((Int × Int × Int × Int × (Nat → Int) × (Nat → Bool) × (Nat → Bool) × (List Int)) ⊕ (Nat → Bool)) := iter (fun x => f_q1e_n9 x.1 x.2.1 x.2.2.1 x.2.2.2.1 x.2.2.2.2.1 x.2.2.2.2.2.1 x.2.2.2.2.2.2.1 x.2.2.2.2.2.2.2.1 x.2.2.2.2.2.2.2.2.1 x.2.2.2.2.2.2.2.2.2) FU x
noncomputable def f_q1e_G9 (r : List A) (x : (Int × Int × Int × Int × Int × (Nat → Int) × (Nat → Bool) × (Nat → Bool) × (List Int) × (List Int))) : Prop := f_q1e_L r 9 (f_q1e_s9 x.1 x.2.1 x.2.2.1 x.2.2.2.1 x.2.2.2.2.1 x.2.2.2.2.2.1 x.2.2.2.2.2.2.1 x.2.2.2.2.2.2.2.1 x.2.2.2.2.2.2.2.2.1 x.2.2.2.2.2.2.2.2.2) = some r
theorem f_q1e_step5 (x0 x1 x2 x3 : Int) (x4 : Nat → Int) (x5 : (Nat → Bool)) (x6 : (Nat → Bool)) (x7 : List Int) (r : List A) (h : (cond (decide (x1 < ((List.length x7 : Nat) : Int))) (cond (inB x1 (List.length x7)) (Option.bind (s_q16 x2 x3 x4 (List.getD x7 (Int.toNat x1) 0)) fun r1 => (f_q1e_L r 9 (f_q1e_s9 x0 x1 0 x2 x3 x4 x5 x6 x7 r1))) none) (some [.fb 144 x6])) = some r) : f_q1e_L r 5 (f_q1e_s5 x0 x1 x2 x3 x4 x5 x6 x7) = some r :=
 step_of' h (by kernel_rfl)
noncomputable def f_q1e_n5 (x0 x1 x2 x3 : Int) (x4 : Nat → Int) (x5 : (Nat → Bool)) (x6 : (Nat → Bool)) (x7 : List Int) : Option ((Int × Int × Int × Int × (Nat → Int) × (Nat → Bool) × (Nat → Bool) × (List Int)) ⊕ (Nat → Bool)) := (cond (decide (x1 < ((List.length x7 : Nat) : Int))) (cond (inB x1 (List.length x7)) (Option.bind (s_q16 x2 x3 x4 (List.getD x7 (Int.toNat x1) 0)) fun r1 => (f_q1e_run9 (x0, x1, 0, x2, x3, x4, x5, x6, x7, r1))) none) (some (Sum.inr x6)))
noncomputable def f_q1e_run5 (x : (Int × Int × Int × Int × (Nat → Int) × (Nat → Bool) × (Nat → Bool) × (List Int))) : Option (Nat → Bool) := iter (fun x => f_q1e_n5 x.1 x.2.1 x.2.2.1 x.2.2.2.1 x.2.2.2.2.1 x.2.2.2.2.2.1 x.2.2.2.2.2.2.1 x.2.2.2.2.2.2.2) FU x
noncomputable def f_q1e_G5 (r : List A) (x : (Int × Int × Int × Int × (Nat → Int) × (Nat → Bool) × (Nat → Bool) × (List Int))) : Prop := f_q1e_L r 5 (f_q1e_s5 x.1 x.2.1 x.2.2.1 x.2.2.2.1 x.2.2.2.2.1 x.2.2.2.2.2.1 x.2.2.2.2.2.2.1 x.2.2.2.2.2.2.2) = some r
noncomputable def f_q1e_S5 (r : List A) : (Nat → Bool) → Prop := fun v => r = l_q1e v
noncomputable def f_q1e_S9 (r : List A) : ((Int × Int × Int × Int × (Nat → Int) × (Nat → Bool) × (Nat → Bool) × (List Int)) ⊕ (Nat → Bool)) → Prop := goesOn (f_q1e_G5 r) (f_q1e_S5 r)
theorem f_q1e_go9 (r : List A) : ∀ x, sem (f_q1e_S9 r) (f_q1e_run9 x) → f_q1e_G9 r x :=
 fun x => iter_sound (step := fun x => f_q1e_n9 x.1 x.2.1 x.2.2.1 x.2.2.2.1 x.2.2.2.2.1 x.2.2.2.2.2.1 x.2.2.2.2.2.2.1 x.2.2.2.2.2.2.2.1 x.2.2.2.2.2.2.2.2.1 x.2.2.2.2.2.2.2.2.2) (fun x h => by
  unfold f_q1e_n9 at h
  exact f_q1e_step9 x.1 x.2.1 x.2.2.1 x.2.2.2.1 x.2.2.2.2.1 x.2.2.2.2.2.1 x.2.2.2.2.2.2.1 x.2.2.2.2.2.2.2.1 x.2.2.2.2.2.2.2.2.1 x.2.2.2.2.2.2.2.2.2 r ((sem_cond h (fun h => (sem_cond h (fun h => (sem_cond h (fun h => (sem_cond h (fun h => (sem_cond h (fun h => (sem_cond h (fun h => (sem_cond h (fun h => (sem_cond h (fun h => (sem_cond h (fun h => (sem_cond h (fun h => (sem_cond h (fun h => (sem_cond h (fun h => sem_got h fun q => q) (fun h => sem_none h))) (fun h => sem_none h))) (fun h => sem_none h))) (fun h => sem_none h))) (fun h => sem_got h fun q => q))) (fun h => sem_none h))) (fun h => sem_none h))) (fun h => sem_none h))) (fun h => sem_got h fun q => q))) (fun h => sem_none h))) (fun h => sem_none h))) (fun h => sem_got h fun q => q)))) FU x
theorem f_q1e_go5 (r : List A) : ∀ x, sem (f_q1e_S5 r) (f_q1e_run5 x) → f_q1e_G5 r x :=
 fun x => iter_sound (step := fun x => f_q1e_n5 x.1 x.2.1 x.2.2.1 x.2.2.2.1 x.2.2.2.2.1 x.2.2.2.2.2.1 x.2.2.2.2.2.2.1 x.2.2.2.2.2.2.2) (fun x h => by
  unfold f_q1e_n5 at h
  exact f_q1e_step5 x.1 x.2.1 x.2.2.1 x.2.2.2.1 x.2.2.2.2.1 x.2.2.2.2.2.1 x.2.2.2.2.2.2.1 x.2.2.2.2.2.2.2 r ((sem_cond h (fun h => (sem_cond h (fun h => (sem_bind h fun r1 h => f_q1e_go9 r _ h)) (fun h => sem_none h))) (fun h => sem_got h fun q => some_eq q)))) FU x
noncomputable def s_q1e (a0 a1 : Int) (a2 : Nat → Int) (a3 : Int) : Option (Nat → Bool) := (cond (inB a3 144) (f_q1e_run5 (a3, 0, a0, a1, a2, zB, (updb zB (Int.toNat a3) true), [a3])) none)
theorem f_q1e_top (a0 a1 : Int) (a2 : Nat → Int) (a3 : Int) (r : List A) : Tq f_q1e_X f_q1e_LV f_q1e_c f_q1e_rv r [.ref (.rc [.v (.int .i8 a0), .v (.int .i8 a1), .fa 144 .u8 a2]), .v (.int .i64 a3)] = (cond (inB a3 144) (f_q1e_L r 5 (f_q1e_s5 a3 0 a0 a1 a2 zB (updb zB (Int.toNat a3) true) [a3])) none) := by kernel_rfl
theorem s_q1e_ok (a0 a1 : Int) (a2 : Nat → Int) (a3 : Int) (v : (Nat → Bool)) (h : s_q1e a0 a1 a2 a3 = some v) : (cond (inB a3 144) (f_q1e_L (l_q1e v) 5 (f_q1e_s5 a3 0 a0 a1 a2 zB (updb zB (Int.toNat a3) true) [a3])) none) = some (l_q1e v) := by
 replace h : sem (fun w => l_q1e v = l_q1e w) (s_q1e a0 a1 a2 a3) := ⟨v, h, rfl⟩
 unfold s_q1e at h
 exact (sem_cond h (fun h => f_q1e_go5 (l_q1e v) _ h) (fun h => sem_none h))
noncomputable def c_q1e : List A → ACall
 | [.ref (.rc [.v (.int .i8 a0), .v (.int .i8 a1), .fa 144 .u8 a2]), .v (.int .i64 a3)] => ⟨(Nat → Bool), s_q1e a0 a1 a2 a3, fun r => .one (.fb 144 r)⟩
 | _ => ACall.fail
theorem f_q1e_sound : Sound Tryz.prog 189 c_q1e := by
 refine good f_q1e_ctx f_q1e_LV f_q1e_c f_q1e_rv 2 Tryz.func189 fun rs => ?_
 unfold c_q1e
 split
 ·rename_i a0 a1 a2 a3; intro v h; exact ⟨rfl, l_q1e v, rfl, (f_q1e_top a0 a1 a2 a3 _).trans (s_q1e_ok a0 a1 a2 a3 v h)⟩
 ·intro v h; cases h
noncomputable def f_q0e_c := codeC Tryz.f149
noncomputable def f_q0e_X : Ctx := ⟨TT, phiOf [(184, c_q0l), (185, c_q0f)], noPsi, noXi⟩
def f_q0e_LV : List (Nat × Keep) := [(3, ([1, 3, 4, 11], [], [])), (8, ([1, 3, 4, 6, 11, 32, 33, 34], [], []))]
def f_q0e_rv : List ResultVar := [.tmp 2]
noncomputable def f_q0e_L := Lq f_q0e_X f_q0e_LV f_q0e_c f_q0e_rv
theorem f_q0e_ctx : CtxOK Tryz.prog f_q0e_X := ctx_of tab mix ⟨⟨Tryz.call184, f_q0l_sound⟩, ⟨Tryz.call185, f_q0f_sound⟩, trivial⟩
noncomputable def f_q0e_s3 (x0 x1 x2 : Int) (x3 : Nat → Int) (x4 : (List (List Int))) (x5 : (Nat → Bool)) : AS := ⟨[(1, .a (.ptr 0 [] (0))), (3, .a (.sl 1)), (4, .a (.ptr 2 [] (0))), (11, .a (.v (.int .i64 x0)))], [(0, some ⟨true, .box (.rc [.v (.int .i8 x1), .v (.int .i8 x2), .fa 144 .u8 x3])⟩), (1, some ⟨true, .arr (.one (.ls .i64)) x4⟩), (2, some ⟨true, .box (.fb 144 x5)⟩)], 3⟩
noncomputable def f_q0e_s8 (x0 x1 x2 x3 x4 : Int) (x5 : Nat → Int) (x6 : (List (List Int))) (x7 : (Nat → Bool)) (x8 : List Int) : AS := ⟨[(1, .a (.ptr 0 [] (0))), (3, .a (.sl 1)), (4, .a (.ptr 2 [] (0))), (6, .a (.sl 3)), (11, .a (.v (.int .i64 x0))), (32, .a (.sl 3)), (33, .a (.v (.int .i64 x1))), (34, .a (.v (.int .i64 x2)))], [(0, some ⟨true, .box (.rc [.v (.int .i8 x3), .v (.int .i8 x4), .fa 144 .u8 x5])⟩), (1, some ⟨true, .arr (.one (.ls .i64)) x6⟩), (2, some ⟨true, .box (.fb 144 x7)⟩), (3, some ⟨true, .arr (.one (.i .i64)) x8⟩)], 4⟩
noncomputable def l_q0e (r : (List (List Int))) : List A := [.lst (.one (.ls .i64)) r]
theorem f_q0e_step8 (x0 x1 x2 x3 x4 : Int) (x5 : Nat → Int) (x6 : (List (List Int))) (x7 : (Nat → Bool)) (x8 : List Int) (r : List A) (h : (cond (decide (x2 < x1)) (cond (inB x2 (List.length x8)) (cond (inB (List.getD x8 (Int.toNat x2) 0) 144) (f_q0e_L r 8 (f_q0e_s8 x0 x1 (IntKind.wrap .i64 (x2 + 1)) x3 x4 x5 x6 (updb x7 (Int.toNat (List.getD x8 (Int.toNat x2) 0)) true) x8)) none) none) (cond (fits ((List.length (x6 : List (List Int)) + List.length ([x8] : List (List Int))) * 24)) (f_q0e_L r 3 (f_q0e_s3 (IntKind.wrap .i64 (x0 + 1)) x3 x4 x5 (x6 ++ [x8]) x7)) none)) = some r) : f_q0e_L r 8 (f_q0e_s8 x0 x1 x2 x3 x4 x5 x6 x7 x8) = some r :=
 step_of' h (by kernel_rfl)
noncomputable def f_q0e_n8 (x0 x1 x2 x3 x4 : Int) (x5 : Nat → Int) (x6 : (List (List Int))) (x7 : (Nat → Bool)) (x8 : List Int) : Option ((Int × Int × Int × Int × Int × (Nat → Int) × (List (List Int)) × (Nat → Bool) × (List Int)) ⊕ ((Int × Int × Int × (Nat → Int) × (List (List Int)) × (Nat → Bool)) ⊕ (List (List Int)))) := (cond (decide (x2 < x1)) (cond (inB x2 (List.length x8)) (cond (inB (List.getD x8 (Int.toNat x2) 0) 144) (some (Sum.inl (x0, x1, (IntKind.wrap .i64 (x2 + 1)), x3, x4, x5, x6, (updb x7 (Int.toNat (List.getD x8 (Int.toNat x2) 0)) true), x8))) none) none) (cond (fits ((List.length (x6 : List (List Int)) + List.length ([x8] : List (List Int))) * 24)) (some (Sum.inr (Sum.inl ((IntKind.wrap .i64 (x0 + 1)), x3, x4, x5, (x6 ++ [x8]), x7)))) none))
noncomputable def f_q0e_run8 (x : (Int × Int × Int × Int × Int × (Nat → Int) × (List (List Int)) × (Nat → Bool) × (List Int))) : Option ((Int × Int × Int × (Nat → Int) × (List (List Int)) × (Nat → Bool)) ⊕ (List (List Int))) := iter (fun x => f_q0e_n8 x.1 x.2.1 x.2.2.1 x.2.2.2.1 x.2.2.2.2.1 x.2.2.2.2.2.1 x.2.2.2.2.2.2.1 x.2.2.2.2.2.2.2.1 x.2.2.2.2.2.2.2.2) FU x
noncomputable def f_q0e_G8 (r : List A) (x : (Int × Int × Int × Int × Int × (Nat → Int) × (List (List Int)) × (Nat → Bool) × (List Int))) : Prop := f_q0e_L r 8 (f_q0e_s8 x.1 x.2.1 x.2.2.1 x.2.2.2.1 x.2.2.2.2.1 x.2.2.2.2.2.1 x.2.2.2.2.2.2.1 x.2.2.2.2.2.2.2.1 x.2.2.2.2.2.2.2.2) = some r
theorem f_q0e_step3 (x0 x1 x2 : Int) (x3 : Nat → Int) (x4 : (List (List Int))) (x5 : (Nat → Bool)) (r : List A) (h : (cond (decide (x0 < 144)) (cond (!(s_q0l x1 x2 x3 (Int.tmod x0 12) (IntKind.wrap .i64 (Int.tdiv x0 12)))) (f_q0e_L r 3 (f_q0e_s3 (IntKind.wrap .i64 (x0 + 1)) x1 x2 x3 x4 x5)) (cond (inB x0 144) (cond (x5 (Int.toNat x0)) (f_q0e_L r 3 (f_q0e_s3 (IntKind.wrap .i64 (x0 + 1)) x1 x2 x3 x4 x5)) (Option.bind (s_q0f x1 x2 x3 (Int.tmod x0 12) (IntKind.wrap .i64 (Int.tdiv x0 12))) fun r1 => (f_q0e_L r 8 (f_q0e_s8 x0 ((List.length r1 : Nat) : Int) 0 x1 x2 x3 x4 x5 r1)))) none)) (some [.lst (.one (.ls .i64)) x4])) = some r) : f_q0e_L r 3 (f_q0e_s3 x0 x1 x2 x3 x4 x5) = some r :=
 step_of' h (by kernel_rfl)
noncomputable def f_q0e_n3 (x0 x1 x2 : Int) (x3 : Nat → Int) (x4 : (List (List Int))) (x5 : (Nat → Bool)) : Option ((Int × Int × Int × (Nat → Int) × (List (List Int)) × (Nat → Bool)) ⊕ (List (List Int))) := (cond (decide (x0 < 144)) (cond (!(s_q0l x1 x2 x3 (Int.tmod x0 12) (IntKind.wrap .i64 (Int.tdiv x0 12)))) (some (Sum.inl ((IntKind.wrap .i64 (x0 + 1)), x1, x2, x3, x4, x5))) (cond (inB x0 144) (cond (x5 (Int.toNat x0)) (some (Sum.inl ((IntKind.wrap .i64 (x0 + 1)), x1, x2, x3, x4, x5))) (Option.bind (s_q0f x1 x2 x3 (Int.tmod x0 12) (IntKind.wrap .i64 (Int.tdiv x0 12))) fun r1 => (f_q0e_run8 (x0, ((List.length r1 : Nat) : Int), 0, x1, x2, x3, x4, x5, r1)))) none)) (some (Sum.inr x4)))
noncomputable def f_q0e_run3 (x : (Int × Int × Int × (Nat → Int) × (List (List Int)) × (Nat → Bool))) : Option (List (List Int)) := iter (fun x => f_q0e_n3 x.1 x.2.1 x.2.2.1 x.2.2.2.1 x.2.2.2.2.1 x.2.2.2.2.2) FU x
noncomputable def f_q0e_G3 (r : List A) (x : (Int × Int × Int × (Nat → Int) × (List (List Int)) × (Nat → Bool))) : Prop := f_q0e_L r 3 (f_q0e_s3 x.1 x.2.1 x.2.2.1 x.2.2.2.1 x.2.2.2.2.1 x.2.2.2.2.2) = some r
noncomputable def f_q0e_S3 (r : List A) : (List (List Int)) → Prop := fun v => r = l_q0e v
noncomputable def f_q0e_S8 (r : List A) : ((Int × Int × Int × (Nat → Int) × (List (List Int)) × (Nat → Bool)) ⊕ (List (List Int))) → Prop := goesOn (f_q0e_G3 r) (f_q0e_S3 r)
theorem f_q0e_go8 (r : List A) : ∀ x, sem (f_q0e_S8 r) (f_q0e_run8 x) → f_q0e_G8 r x :=
 fun x => iter_sound (step := fun x => f_q0e_n8 x.1 x.2.1 x.2.2.1 x.2.2.2.1 x.2.2.2.2.1 x.2.2.2.2.2.1 x.2.2.2.2.2.2.1 x.2.2.2.2.2.2.2.1 x.2.2.2.2.2.2.2.2) (fun x h => by
  unfold f_q0e_n8 at h
  exact f_q0e_step8 x.1 x.2.1 x.2.2.1 x.2.2.2.1 x.2.2.2.2.1 x.2.2.2.2.2.1 x.2.2.2.2.2.2.1 x.2.2.2.2.2.2.2.1 x.2.2.2.2.2.2.2.2 r ((sem_cond h (fun h => (sem_cond h (fun h => (sem_cond h (fun h => sem_got h fun q => q) (fun h => sem_none h))) (fun h => sem_none h))) (fun h => (sem_cond h (fun h => sem_got h fun q => q) (fun h => sem_none h)))))) FU x
theorem f_q0e_go3 (r : List A) : ∀ x, sem (f_q0e_S3 r) (f_q0e_run3 x) → f_q0e_G3 r x :=
 fun x => iter_sound (step := fun x => f_q0e_n3 x.1 x.2.1 x.2.2.1 x.2.2.2.1 x.2.2.2.2.1 x.2.2.2.2.2) (fun x h => by
  unfold f_q0e_n3 at h
  exact f_q0e_step3 x.1 x.2.1 x.2.2.1 x.2.2.2.1 x.2.2.2.2.1 x.2.2.2.2.2 r ((sem_cond h (fun h => (sem_cond h (fun h => sem_got h fun q => q) (fun h => (sem_cond h (fun h => (sem_cond h (fun h => sem_got h fun q => q) (fun h => (sem_bind h fun r1 h => f_q0e_go8 r _ h)))) (fun h => sem_none h))))) (fun h => sem_got h fun q => some_eq q)))) FU x
noncomputable def s_q0e (a0 a1 : Int) (a2 : Nat → Int) : Option (List (List Int)) := (f_q0e_run3 (0, a0, a1, a2, [], zB))
theorem f_q0e_top (a0 a1 : Int) (a2 : Nat → Int) (r : List A) : Tq f_q0e_X f_q0e_LV f_q0e_c f_q0e_rv r [.rc [.v (.int .i8 a0), .v (.int .i8 a1), .fa 144 .u8 a2]] = (f_q0e_L r 3 (f_q0e_s3 0 a0 a1 a2 [] zB)) := by kernel_rfl
theorem s_q0e_ok (a0 a1 : Int) (a2 : Nat → Int) (v : (List (List Int))) (h : s_q0e a0 a1 a2 = some v) : (f_q0e_L (l_q0e v) 3 (f_q0e_s3 0 a0 a1 a2 [] zB)) = some (l_q0e v) := by
 replace h : sem (fun w => l_q0e v = l_q0e w) (s_q0e a0 a1 a2) := ⟨v, h, rfl⟩
 unfold s_q0e at h
 exact f_q0e_go3 (l_q0e v) _ h
noncomputable def c_q0e : List A → ACall
 | [.rc [.v (.int .i8 a0), .v (.int .i8 a1), .fa 144 .u8 a2]] => ⟨(List (List Int)), s_q0e a0 a1 a2, fun r => .one (.lst (.one (.ls .i64)) r)⟩
 | _ => ACall.fail
theorem f_q0e_sound : Sound Tryz.prog 149 c_q0e := by
 refine good f_q0e_ctx f_q0e_LV f_q0e_c f_q0e_rv 1 Tryz.func149 fun rs => ?_
 unfold c_q0e
 split
 ·rename_i a0 a1 a2; intro v h; exact ⟨rfl, l_q0e v, rfl, (f_q0e_top a0 a1 a2 _).trans (s_q0e_ok a0 a1 a2 v h)⟩
 ·intro v h; cases h
noncomputable def f_q17_c := codeC Tryz.f153
noncomputable def f_q17_X : Ctx := ⟨TT, phiOf [(181, c_q28), (189, c_q1e), (190, c_q18)], noPsi, noXi⟩
def f_q17_LV : List (Nat × Keep) := [(4, ([0, 3, 4, 5], [], [])), (9, ([0, 3, 4, 5, 6, 7], [], []))]
def f_q17_rv : List ResultVar := [.tmp 2]
noncomputable def f_q17_L := Lq f_q17_X f_q17_LV f_q17_c f_q17_rv
theorem f_q17_ctx : CtxOK Tryz.prog f_q17_X := ctx_of tab mix ⟨⟨Tryz.call181, f_q28_sound⟩, ⟨Tryz.call189, f_q1e_sound⟩, ⟨Tryz.call190, f_q18_sound⟩, trivial⟩
noncomputable def f_q17_s4 (x0 x1 x2 : Int) (x3 : Nat → Int) (x4 : (List (List Int))) (x5 : (Nat → Bool)) : AS := ⟨[(0, .a (.ptr 0 [] (0))), (3, .a (.sl 1)), (4, .a (.ptr 2 [] (0))), (5, .a (.v (.int .i64 x0)))], [(0, some ⟨false, .box (.rc [.v (.int .i8 x1), .v (.int .i8 x2), .fa 144 .u8 x3])⟩), (1, some ⟨true, .arr (.one (.ls .i64)) x4⟩), (2, some ⟨true, .box (.fb 144 x5)⟩)], 3⟩
noncomputable def f_q17_s9 (x0 x1 x2 x3 : Int) (x4 : Nat → Int) (x5 : (List (List Int))) (x6 : (Nat → Bool)) (x7 : (Nat → Bool)) : AS := ⟨[(0, .a (.ptr 0 [] (0))), (3, .a (.sl 1)), (4, .a (.ptr 2 [] (0))), (5, .a (.v (.int .i64 x0))), (6, .a (.ptr 3 [] (0))), (7, .a (.v (.int .i64 x1)))], [(0, some ⟨false, .box (.rc [.v (.int .i8 x2), .v (.int .i8 x3), .fa 144 .u8 x4])⟩), (1, some ⟨true, .arr (.one (.ls .i64)) x5⟩), (2, some ⟨true, .box (.fb 144 x6)⟩), (3, some ⟨true, .box (.fb 144 x7)⟩)], 4⟩
noncomputable def l_q17 (r : (List (List Int))) : List A := [.lst (.one (.ls .i64)) r]
theorem f_q17_step9 (x0 x1 x2 x3 : Int) (x4 : Nat → Int) (x5 : (List (List Int))) (x6 : (Nat → Bool)) (x7 : (Nat → Bool)) (r : List A) (h : (cond (decide (x1 < 144)) (cond (inB x1 144) (cond (x6 (Int.toNat x1)) (cond (inB x1 144) (f_q17_L r 9 (f_q17_s9 x0 (IntKind.wrap .i64 (x1 + 1)) x2 x3 x4 x5 (updb x6 (Int.toNat x1) true) x7)) none) (cond (inB x1 144) (cond (inB x1 144) (f_q17_L r 9 (f_q17_s9 x0 (IntKind.wrap .i64 (x1 + 1)) x2 x3 x4 x5 (updb x6 (Int.toNat x1) (x7 (Int.toNat x1))) x7)) none) none)) none) (Option.bind (s_q18 x7) fun r2 => (cond (fits ((List.length (x5 : List (List Int)) + List.length ([r2] : List (List Int))) * 24)) (f_q17_L r 4 (f_q17_s4 (IntKind.wrap .i64 (x0 + 1)) x2 x3 x4 (x5 ++ [r2]) x6)) none))) = some r) : f_q17_L r 9 (f_q17_s9 x0 x1 x2 x3 x4 x5 x6 x7) = some r :=
 step_of' h (by kernel_rfl)
noncomputable def f_q17_n9 (x0 x1 x2 x3 : Int) (x4 : Nat → Int) (x5 : (List (List Int))) (x6 : (Nat → Bool)) (x7 : (Nat → Bool)) : Option ((Int × Int × Int × Int × (Nat → Int) × (List (List Int)) × (Nat → Bool) × (Nat → Bool)) ⊕ ((Int × Int × Int × (Nat → Int) × (List (List Int)) × (Nat → Bool)) ⊕ (List (List Int)))) := (cond (decide (x1 < 144)) (cond (inB x1 144) (cond (x6 (Int.toNat x1)) (cond (inB x1 144) (some (Sum.inl (x0, (IntKind.wrap .i64 (x1 + 1)), x2, x3, x4, x5, (updb x6 (Int.toNat x1) true), x7))) none) (cond (inB x1 144) (cond (inB x1 144) (some (Sum.inl (x0, (IntKind.wrap .i64 (x1 + 1)), x2, x3, x4, x5, (updb x6 (Int.toNat x1) (x7 (Int.toNat x1))), x7))) none) none)) none) (Option.bind (s_q18 x7) fun r2 => (cond (fits ((List.length (x5 : List (List Int)) + List.length ([r2] : List (List Int))) * 24)) (some (Sum.inr (Sum.inl ((IntKind.wrap .i64 (x0 + 1)), x2, x3, x4, (x5 ++ [r2]), x6)))) none)))
noncomputable def f_q17_run9 (x : (Int × Int × Int × Int × (Nat → Int) × (List (List Int)) × (Nat → Bool) × (Nat → Bool))) : Option ((Int × Int × Int × (Nat → Int) × (List (List Int)) × (Nat → Bool)) ⊕ (List (List Int))) := iter (fun x => f_q17_n9 x.1 x.2.1 x.2.2.1 x.2.2.2.1 x.2.2.2.2.1 x.2.2.2.2.2.1 x.2.2.2.2.2.2.1 x.2.2.2.2.2.2.2) FU x
noncomputable def f_q17_G9 (r : List A) (x : (Int × Int × Int × Int × (Nat → Int) × (List (List Int)) × (Nat → Bool) × (Nat → Bool))) : Prop := f_q17_L r 9 (f_q17_s9 x.1 x.2.1 x.2.2.1 x.2.2.2.1 x.2.2.2.2.1 x.2.2.2.2.2.1 x.2.2.2.2.2.2.1 x.2.2.2.2.2.2.2) = some r
theorem f_q17_step4 (x0 x1 x2 : Int) (x3 : Nat → Int) (x4 : (List (List Int))) (x5 : (Nat → Bool)) (r : List A) (h : (cond (decide (x0 < 144)) (cond (!(s_q28 x1 x2 x3 x0)) (f_q17_L r 4 (f_q17_s4 (IntKind.wrap .i64 (x0 + 1)) x1 x2 x3 x4 x5)) (cond (inB x0 144) (cond (x5 (Int.toNat x0)) (f_q17_L r 4 (f_q17_s4 (IntKind.wrap .i64 (x0 + 1)) x1 x2 x3 x4 x5)) (Option.bind (s_q1e x1 x2 x3 x0) fun r1 => (f_q17_L r 9 (f_q17_s9 x0 0 x1 x2 x3 x4 x5 r1)))) none)) (some [.lst (.one (.ls .i64)) x4])) = some r) : f_q17_L r 4 (f_q17_s4 x0 x1 x2 x3 x4 x5) = some r :=
 step_of' h (by kernel_rfl)
noncomputable def f_q17_n4 (x0 x1 x2 : Int) (x3 : Nat → Int) (x4 : (List (List Int))) (x5 : (Nat → Bool)) : Option ((Int × Int × Int × (Nat → Int) × (List (List Int)) × (Nat → Bool)) ⊕ (List (List Int))) := (cond (decide (x0 < 144)) (cond (!(s_q28 x1 x2 x3 x0)) (some (Sum.inl ((IntKind.wrap .i64 (x0 + 1)), x1, x2, x3, x4, x5))) (cond (inB x0 144) (cond (x5 (Int.toNat x0)) (some (Sum.inl ((IntKind.wrap .i64 (x0 + 1)), x1, x2, x3, x4, x5))) (Option.bind (s_q1e x1 x2 x3 x0) fun r1 => (f_q17_run9 (x0, 0, x1, x2, x3, x4, x5, r1)))) none)) (some (Sum.inr x4)))
noncomputable def f_q17_run4 (x : (Int × Int × Int × (Nat → Int) × (List (List Int)) × (Nat → Bool))) : Option (List (List Int)) := iter (fun x => f_q17_n4 x.1 x.2.1 x.2.2.1 x.2.2.2.1 x.2.2.2.2.1 x.2.2.2.2.2) FU x
noncomputable def f_q17_G4 (r : List A) (x : (Int × Int × Int × (Nat → Int) × (List (List Int)) × (Nat → Bool))) : Prop := f_q17_L r 4 (f_q17_s4 x.1 x.2.1 x.2.2.1 x.2.2.2.1 x.2.2.2.2.1 x.2.2.2.2.2) = some r
noncomputable def f_q17_S4 (r : List A) : (List (List Int)) → Prop := fun v => r = l_q17 v
noncomputable def f_q17_S9 (r : List A) : ((Int × Int × Int × (Nat → Int) × (List (List Int)) × (Nat → Bool)) ⊕ (List (List Int))) → Prop := goesOn (f_q17_G4 r) (f_q17_S4 r)
theorem f_q17_go9 (r : List A) : ∀ x, sem (f_q17_S9 r) (f_q17_run9 x) → f_q17_G9 r x :=
 fun x => iter_sound (step := fun x => f_q17_n9 x.1 x.2.1 x.2.2.1 x.2.2.2.1 x.2.2.2.2.1 x.2.2.2.2.2.1 x.2.2.2.2.2.2.1 x.2.2.2.2.2.2.2) (fun x h => by
  unfold f_q17_n9 at h
  exact f_q17_step9 x.1 x.2.1 x.2.2.1 x.2.2.2.1 x.2.2.2.2.1 x.2.2.2.2.2.1 x.2.2.2.2.2.2.1 x.2.2.2.2.2.2.2 r ((sem_cond h (fun h => (sem_cond h (fun h => (sem_cond h (fun h => (sem_cond h (fun h => sem_got h fun q => q) (fun h => sem_none h))) (fun h => (sem_cond h (fun h => (sem_cond h (fun h => sem_got h fun q => q) (fun h => sem_none h))) (fun h => sem_none h))))) (fun h => sem_none h))) (fun h => (sem_bind h fun r2 h => (sem_cond h (fun h => sem_got h fun q => q) (fun h => sem_none h))))))) FU x
theorem f_q17_go4 (r : List A) : ∀ x, sem (f_q17_S4 r) (f_q17_run4 x) → f_q17_G4 r x :=
 fun x => iter_sound (step := fun x => f_q17_n4 x.1 x.2.1 x.2.2.1 x.2.2.2.1 x.2.2.2.2.1 x.2.2.2.2.2) (fun x h => by
  unfold f_q17_n4 at h
  exact f_q17_step4 x.1 x.2.1 x.2.2.1 x.2.2.2.1 x.2.2.2.2.1 x.2.2.2.2.2 r ((sem_cond h (fun h => (sem_cond h (fun h => sem_got h fun q => q) (fun h => (sem_cond h (fun h => (sem_cond h (fun h => sem_got h fun q => q) (fun h => (sem_bind h fun r1 h => f_q17_go9 r _ h)))) (fun h => sem_none h))))) (fun h => sem_got h fun q => some_eq q)))) FU x
noncomputable def s_q17 (a0 a1 : Int) (a2 : Nat → Int) : Option (List (List Int)) := (f_q17_run4 (0, a0, a1, a2, [], zB))
theorem f_q17_top (a0 a1 : Int) (a2 : Nat → Int) (r : List A) : Tq f_q17_X f_q17_LV f_q17_c f_q17_rv r [.ref (.rc [.v (.int .i8 a0), .v (.int .i8 a1), .fa 144 .u8 a2])] = (f_q17_L r 4 (f_q17_s4 0 a0 a1 a2 [] zB)) := by kernel_rfl
theorem s_q17_ok (a0 a1 : Int) (a2 : Nat → Int) (v : (List (List Int))) (h : s_q17 a0 a1 a2 = some v) : (f_q17_L (l_q17 v) 4 (f_q17_s4 0 a0 a1 a2 [] zB)) = some (l_q17 v) := by
 replace h : sem (fun w => l_q17 v = l_q17 w) (s_q17 a0 a1 a2) := ⟨v, h, rfl⟩
 unfold s_q17 at h
 exact f_q17_go4 (l_q17 v) _ h
noncomputable def c_q17 : List A → ACall
 | [.ref (.rc [.v (.int .i8 a0), .v (.int .i8 a1), .fa 144 .u8 a2])] => ⟨(List (List Int)), s_q17 a0 a1 a2, fun r => .one (.lst (.one (.ls .i64)) r)⟩
 | _ => ACall.fail
theorem f_q17_sound : Sound Tryz.prog 153 c_q17 := by
 refine good f_q17_ctx f_q17_LV f_q17_c f_q17_rv 1 Tryz.func153 fun rs => ?_
 unfold c_q17
 split
 ·rename_i a0 a1 a2; intro v h; exact ⟨rfl, l_q17 v, rfl, (f_q17_top a0 a1 a2 _).trans (s_q17_ok a0 a1 a2 v h)⟩
 ·intro v h; cases h
end Go.RR
