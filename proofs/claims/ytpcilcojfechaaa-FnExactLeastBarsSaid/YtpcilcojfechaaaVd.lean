/- Bars: what may be cut, the order of the pieces, both sides. -/
import Derived.Test.YtpcilcojfechaaaVc
import Derived.Test.YtpcilcojfechaaaR3
set_option linter.unusedVariables false
set_option linter.unusedSimpArgs false
set_option linter.unusedSectionVars false
set_option maxRecDepth 100000
namespace Go.RR
open Go Go.Proofs

/-! ### function 51: loop.example/g01322/impl.areBars$1 -/
noncomputable def f_iareBars_1_c := codeC Try.f51
noncomputable def f_iareBars_1_X : Ctx := ⟨TT, phiOf [(27, c_iwithin)], noPsi, noXi⟩
def f_iareBars_1_LV : List (Nat × Keep) := []
def f_iareBars_1_rv : List ResultVar := [.tmp 3]
noncomputable def f_iareBars_1_L := Lq f_iareBars_1_X f_iareBars_1_LV f_iareBars_1_c f_iareBars_1_rv
theorem f_iareBars_1_ctx : CtxOK Try.prog f_iareBars_1_X := ctx_of tab mix ⟨⟨Try.call27, f_iwithin_sound⟩, trivial⟩
noncomputable def s_iareBars_1 (a0 : Int) (a1 : Int) : Bool := (!(s_iwithin a0 1 a1))
theorem f_iareBars_1_top (a0 : Int) (a1 : Int) (r : List A) : Tq f_iareBars_1_X f_iareBars_1_LV f_iareBars_1_c f_iareBars_1_rv r [.v (.int .i64 a0), .ref (.v (.int .i64 a1))] = (some [.v (.bool (!(s_iwithin a0 1 a1)))]) := by kernel_rfl
noncomputable def l_iareBars_1 (r : Bool) : List A := [.v (.bool r)]
theorem s_iareBars_1_ok (a0 : Int) (a1 : Int) : (some [.v (.bool (!(s_iwithin a0 1 a1)))]) = some (l_iareBars_1 (s_iareBars_1 a0 a1)) := by
  unfold s_iareBars_1
  exact rfl
noncomputable def c_iareBars_1 : List A → ACall
  | [.v (.int .i64 a0), .ref (.v (.int .i64 a1))] => ⟨Bool, some (s_iareBars_1 a0 a1), fun r => .one (.v (.bool r))⟩
  | _ => ACall.fail
theorem f_iareBars_1_sound : Sound Try.prog 51 c_iareBars_1 := by
  refine good f_iareBars_1_ctx f_iareBars_1_LV f_iareBars_1_c f_iareBars_1_rv 2 Try.func51 fun rs => ?_
  unfold c_iareBars_1
  split
  · rename_i a0 a1; intro v h; cases h; exact ⟨rfl, l_iareBars_1 (s_iareBars_1 a0 a1), rfl, (f_iareBars_1_top a0 a1 _).trans (s_iareBars_1_ok a0 a1)⟩
  · intro v h; cases h

/-! ### function 58: slices.IndexFunc[[]int64,int64] -/
noncomputable def f_gIndexFunc_int64_b_c := codeC Try.f58
noncomputable def f_gIndexFunc_int64_b_X : Ctx := ⟨TT, phiOf [(51, c_iareBars_1)], noPsi, noXi⟩
def f_gIndexFunc_int64_b_LV : List (Nat × Keep) := [(2, ([0, 1, 7, 8], [], []))]
def f_gIndexFunc_int64_b_rv : List ResultVar := [.tmp 4]
noncomputable def f_gIndexFunc_int64_b_L := Lq f_gIndexFunc_int64_b_X f_gIndexFunc_int64_b_LV f_gIndexFunc_int64_b_c f_gIndexFunc_int64_b_rv
theorem f_gIndexFunc_int64_b_ctx : CtxOK Try.prog f_gIndexFunc_int64_b_X := ctx_of tab mix ⟨⟨Try.call51, f_iareBars_1_sound⟩, trivial⟩
noncomputable def f_gIndexFunc_int64_b_s2 (x0 : Int) (x1 : Int) (x2 : (List Int)) (x3 : Int) : AS := ⟨[(0, .a (.sl 0)), (1, .a (.clo 51 [.ptr 1 [] (0)])), (7, .a (.v (.int .i64 x0))), (8, .a (.v (.int .i64 x1)))], [(0, some ⟨false, .arr (.one (.i .i64)) x2⟩), (1, some ⟨false, .box (.v (.int .i64 x3))⟩)], 2⟩
noncomputable def l_gIndexFunc_int64_b (r : Int) : List A := [.v (.int .i64 r)]
theorem f_gIndexFunc_int64_b_step2 (x0 : Int) (x1 : Int) (x2 : (List Int)) (x3 : Int) (r : List A) (h : (cond (decide (x1 < x0)) (cond (inB x1 (List.length x2)) (cond (s_iareBars_1 (List.getD x2 (Int.toNat x1) 0) x3) (some [.v (.int .i64 x1)]) (f_gIndexFunc_int64_b_L r 2 (f_gIndexFunc_int64_b_s2 x0 (IntKind.wrap .i64 (x1 + 1)) x2 x3))) none) (some [.v (.int .i64 (-1))])) = some r) : f_gIndexFunc_int64_b_L r 2 (f_gIndexFunc_int64_b_s2 x0 x1 x2 x3) = some r :=
  step_of' h (by kernel_rfl)
noncomputable def f_gIndexFunc_int64_b_n2 (x0 : Int) (x1 : Int) (x2 : (List Int)) (x3 : Int) : Option ((Int × Int × (List Int) × Int) ⊕ Int) := (cond (decide (x1 < x0)) (cond (inB x1 (List.length x2)) (cond (s_iareBars_1 (List.getD x2 (Int.toNat x1) 0) x3) (some (Sum.inr x1)) (some (Sum.inl (x0, (IntKind.wrap .i64 (x1 + 1)), x2, x3)))) none) (some (Sum.inr (-1))))
noncomputable def f_gIndexFunc_int64_b_run2 (x : (Int × Int × (List Int) × Int)) : Option Int := iter (fun x => f_gIndexFunc_int64_b_n2 x.1 x.2.1 x.2.2.1 x.2.2.2) FU x
noncomputable def f_gIndexFunc_int64_b_G2 (r : List A) (x : (Int × Int × (List Int) × Int)) : Prop := f_gIndexFunc_int64_b_L r 2 (f_gIndexFunc_int64_b_s2 x.1 x.2.1 x.2.2.1 x.2.2.2) = some r
noncomputable def f_gIndexFunc_int64_b_S2 (r : List A) : Int → Prop := fun v => r = l_gIndexFunc_int64_b v
theorem f_gIndexFunc_int64_b_go2 (r : List A) : ∀ x, sem (f_gIndexFunc_int64_b_S2 r) (f_gIndexFunc_int64_b_run2 x) → f_gIndexFunc_int64_b_G2 r x :=
  fun x => iter_sound (step := fun x => f_gIndexFunc_int64_b_n2 x.1 x.2.1 x.2.2.1 x.2.2.2) (fun x h => by
    unfold f_gIndexFunc_int64_b_n2 at h
    exact f_gIndexFunc_int64_b_step2 x.1 x.2.1 x.2.2.1 x.2.2.2 r ((sem_cond h (fun h => (sem_cond h (fun h => (sem_cond h (fun h => sem_got h fun q => some_eq q) (fun h => sem_got h fun q => q))) (fun h => sem_none h))) (fun h => sem_got h fun q => some_eq q)))) FU x
noncomputable def s_gIndexFunc_int64_b (a0 : (List Int)) (a1 : Int) : Option Int := (f_gIndexFunc_int64_b_run2 (((List.length a0 : Nat) : Int), 0, a0, a1))
theorem f_gIndexFunc_int64_b_top (a0 : (List Int)) (a1 : Int) (r : List A) : Tq f_gIndexFunc_int64_b_X f_gIndexFunc_int64_b_LV f_gIndexFunc_int64_b_c f_gIndexFunc_int64_b_rv r [.lst (.one (.i .i64)) a0, .clo 51 [.ref (.v (.int .i64 a1))]] = (f_gIndexFunc_int64_b_L r 2 (f_gIndexFunc_int64_b_s2 ((List.length a0 : Nat) : Int) 0 a0 a1)) := by kernel_rfl
theorem s_gIndexFunc_int64_b_ok (a0 : (List Int)) (a1 : Int) (v : Int) (h : s_gIndexFunc_int64_b a0 a1 = some v) : (f_gIndexFunc_int64_b_L (l_gIndexFunc_int64_b v) 2 (f_gIndexFunc_int64_b_s2 ((List.length a0 : Nat) : Int) 0 a0 a1)) = some (l_gIndexFunc_int64_b v) := by
  replace h : sem (fun w => l_gIndexFunc_int64_b v = l_gIndexFunc_int64_b w) (s_gIndexFunc_int64_b a0 a1) := ⟨v, h, rfl⟩
  unfold s_gIndexFunc_int64_b at h
  exact f_gIndexFunc_int64_b_go2 (l_gIndexFunc_int64_b v) _ h
noncomputable def c_gIndexFunc_int64_b : List A → ACall
  | [.lst (.one (.i .i64)) a0, .clo 51 [.ref (.v (.int .i64 a1))]] => ⟨Int, s_gIndexFunc_int64_b a0 a1, fun r => .one (.v (.int .i64 r))⟩
  | _ => ACall.fail
theorem f_gIndexFunc_int64_b_sound : Sound Try.prog 58 c_gIndexFunc_int64_b := by
  refine good f_gIndexFunc_int64_b_ctx f_gIndexFunc_int64_b_LV f_gIndexFunc_int64_b_c f_gIndexFunc_int64_b_rv 2 Try.func58 fun rs => ?_
  unfold c_gIndexFunc_int64_b
  split
  · rename_i a0 a1; intro v h; exact ⟨rfl, l_gIndexFunc_int64_b v, rfl, (f_gIndexFunc_int64_b_top a0 a1 _).trans (s_gIndexFunc_int64_b_ok a0 a1 v h)⟩
  · intro v h; cases h
def m_gIndexFunc_int64_b : List A → Bool
  | [_, .clo 51 _] => true
  | _ => false

/-! ### function 44: slices.ContainsFunc[[]int64,int64] -/
noncomputable def f_gContainsFunc_int64_b_c := codeC Try.f44
noncomputable def f_gContainsFunc_int64_b_X : Ctx := ⟨TT, phiOf [(58, c_gIndexFunc_int64_b)], noPsi, noXi⟩
def f_gContainsFunc_int64_b_LV : List (Nat × Keep) := []
def f_gContainsFunc_int64_b_rv : List ResultVar := [.tmp 4]
noncomputable def f_gContainsFunc_int64_b_L := Lq f_gContainsFunc_int64_b_X f_gContainsFunc_int64_b_LV f_gContainsFunc_int64_b_c f_gContainsFunc_int64_b_rv
theorem f_gContainsFunc_int64_b_ctx : CtxOK Try.prog f_gContainsFunc_int64_b_X := ctx_of tab mix ⟨⟨Try.call58, f_gIndexFunc_int64_b_sound⟩, trivial⟩
noncomputable def s_gContainsFunc_int64_b (a0 : (List Int)) (a1 : Int) : Option Bool := (Option.bind (s_gIndexFunc_int64_b a0 a1) fun r1 => (some (decide (r1 ≥ 0))))
theorem f_gContainsFunc_int64_b_top (a0 : (List Int)) (a1 : Int) (r : List A) : Tq f_gContainsFunc_int64_b_X f_gContainsFunc_int64_b_LV f_gContainsFunc_int64_b_c f_gContainsFunc_int64_b_rv r [.lst (.one (.i .i64)) a0, .clo 51 [.ref (.v (.int .i64 a1))]] = (Option.bind (s_gIndexFunc_int64_b a0 a1) fun r1 => (some [.v (.bool (decide (r1 ≥ 0)))])) := by kernel_rfl
noncomputable def l_gContainsFunc_int64_b (r : Bool) : List A := [.v (.bool r)]
theorem s_gContainsFunc_int64_b_ok (a0 : (List Int)) (a1 : Int) (v : Bool) (h : s_gContainsFunc_int64_b a0 a1 = some v) : (Option.bind (s_gIndexFunc_int64_b a0 a1) fun r1 => (some [.v (.bool (decide (r1 ≥ 0)))])) = some (l_gContainsFunc_int64_b v) := by
  refine Eq.trans (b := Option.map l_gContainsFunc_int64_b (s_gContainsFunc_int64_b a0 a1)) ?_ (by rw [h]; rfl)
  unfold s_gContainsFunc_int64_b
  exact (bind_app fun _ => rfl)
noncomputable def c_gContainsFunc_int64_b : List A → ACall
  | [.lst (.one (.i .i64)) a0, .clo 51 [.ref (.v (.int .i64 a1))]] => ⟨Bool, s_gContainsFunc_int64_b a0 a1, fun r => .one (.v (.bool r))⟩
  | _ => ACall.fail
theorem f_gContainsFunc_int64_b_sound : Sound Try.prog 44 c_gContainsFunc_int64_b := by
  refine good f_gContainsFunc_int64_b_ctx f_gContainsFunc_int64_b_LV f_gContainsFunc_int64_b_c f_gContainsFunc_int64_b_rv 2 Try.func44 fun rs => ?_
  unfold c_gContainsFunc_int64_b
  split
  · rename_i a0 a1; intro v h; exact ⟨rfl, l_gContainsFunc_int64_b v, rfl, (f_gContainsFunc_int64_b_top a0 a1 _).trans (s_gContainsFunc_int64_b_ok a0 a1 v h)⟩
  · intro v h; cases h
def m_gContainsFunc_int64_b : List A → Bool
  | [_, .clo 51 _] => true
  | _ => false

/-! ### function 36: loop.example/g01322/impl.areBars -/
noncomputable def f_iareBars_c := codeC Try.f36
noncomputable def f_iareBars_X : Ctx := ⟨TT, phiOf [(44, c_gContainsFunc_int64_b), (27, c_iwithin)], noPsi, noXi⟩
def f_iareBars_LV : List (Nat × Keep) := []
def f_iareBars_rv : List ResultVar := [.tmp 6]
noncomputable def f_iareBars_L := Lq f_iareBars_X f_iareBars_LV f_iareBars_c f_iareBars_rv
theorem f_iareBars_ctx : CtxOK Try.prog f_iareBars_X := ctx_of tab mix ⟨⟨Try.call44, f_gContainsFunc_int64_b_sound⟩, ⟨Try.call27, f_iwithin_sound⟩, trivial⟩
noncomputable def s_iareBars (a0 : Int) (a1 : Int) (a2 : (List Int)) : Option Bool := (cond (s_iwithin a0 1 10000) (cond (s_iwithin a1 0 10000) (cond (decide (((List.length a2 : Nat) : Int) ≤ 14)) (Option.bind (s_gContainsFunc_int64_b a2 a0) fun r1 => (some (!r1))) (some false)) (some false)) (some false))
theorem f_iareBars_top (a0 : Int) (a1 : Int) (a2 : (List Int)) (r : List A) : Tq f_iareBars_X f_iareBars_LV f_iareBars_c f_iareBars_rv r [.v (.int .i64 a0), .v (.int .i64 a1), .lst (.one (.i .i64)) a2] = (cond (s_iwithin a0 1 10000) (cond (s_iwithin a1 0 10000) (cond (decide (((List.length a2 : Nat) : Int) ≤ 14)) (Option.bind (s_gContainsFunc_int64_b a2 a0) fun r1 => (some [.v (.bool (!r1))])) (some [.v (.bool false)])) (some [.v (.bool false)])) (some [.v (.bool false)])) := by kernel_rfl
noncomputable def l_iareBars (r : Bool) : List A := [.v (.bool r)]
theorem s_iareBars_ok (a0 : Int) (a1 : Int) (a2 : (List Int)) (v : Bool) (h : s_iareBars a0 a1 a2 = some v) : (cond (s_iwithin a0 1 10000) (cond (s_iwithin a1 0 10000) (cond (decide (((List.length a2 : Nat) : Int) ≤ 14)) (Option.bind (s_gContainsFunc_int64_b a2 a0) fun r1 => (some [.v (.bool (!r1))])) (some [.v (.bool false)])) (some [.v (.bool false)])) (some [.v (.bool false)])) = some (l_iareBars v) := by
  refine Eq.trans (b := Option.map l_iareBars (s_iareBars a0 a1 a2)) ?_ (by rw [h]; rfl)
  unfold s_iareBars
  exact (cond_app (Option.map l_iareBars) (cond_app (Option.map l_iareBars) (cond_app (Option.map l_iareBars) (bind_app fun _ => rfl) rfl) rfl) rfl)
noncomputable def c_iareBars : List A → ACall
  | [.v (.int .i64 a0), .v (.int .i64 a1), .lst (.one (.i .i64)) a2] => ⟨Bool, s_iareBars a0 a1 a2, fun r => .one (.v (.bool r))⟩
  | _ => ACall.fail
theorem f_iareBars_sound : Sound Try.prog 36 c_iareBars := by
  refine good f_iareBars_ctx f_iareBars_LV f_iareBars_c f_iareBars_rv 3 Try.func36 fun rs => ?_
  unfold c_iareBars
  split
  · rename_i a0 a1 a2; intro v h; exact ⟨rfl, l_iareBars v, rfl, (f_iareBars_top a0 a1 a2 _).trans (s_iareBars_ok a0 a1 a2 v h)⟩
  · intro v h; cases h

/-! ### function 53: loop.example/g01322/impl.longestFirst$1 -/
noncomputable def f_ilongestFirst_1_c := codeC Try.f53
noncomputable def f_ilongestFirst_1_X : Ctx := ⟨TT, phiOf [], noPsi, noXi⟩
def f_ilongestFirst_1_LV : List (Nat × Keep) := []
def f_ilongestFirst_1_rv : List ResultVar := [.tmp 5]
noncomputable def f_ilongestFirst_1_L := Lq f_ilongestFirst_1_X f_ilongestFirst_1_LV f_ilongestFirst_1_c f_ilongestFirst_1_rv
theorem f_ilongestFirst_1_ctx : CtxOK Try.prog f_ilongestFirst_1_X := ctx_of tab mix trivial
noncomputable def s_ilongestFirst_1 (a0 : Int) (a1 : Int) (a2 : (List Int)) : Option Int := (cond (inB a1 (List.length a2)) (cond (inB a0 (List.length a2)) (some (IntKind.wrap .i64 ((List.getD a2 (Int.toNat a1) 0) - (List.getD a2 (Int.toNat a0) 0)))) none) none)
theorem f_ilongestFirst_1_top (a0 : Int) (a1 : Int) (a2 : (List Int)) (r : List A) : Tq f_ilongestFirst_1_X f_ilongestFirst_1_LV f_ilongestFirst_1_c f_ilongestFirst_1_rv r [.v (.int .i64 a0), .v (.int .i64 a1), .ref (.lst (.one (.i .i64)) a2)] = (cond (inB a1 (List.length a2)) (cond (inB a0 (List.length a2)) (some [.v (.int .i64 (IntKind.wrap .i64 ((List.getD a2 (Int.toNat a1) 0) - (List.getD a2 (Int.toNat a0) 0))))]) none) none) := by kernel_rfl
noncomputable def l_ilongestFirst_1 (r : Int) : List A := [.v (.int .i64 r)]
theorem s_ilongestFirst_1_ok (a0 : Int) (a1 : Int) (a2 : (List Int)) (v : Int) (h : s_ilongestFirst_1 a0 a1 a2 = some v) : (cond (inB a1 (List.length a2)) (cond (inB a0 (List.length a2)) (some [.v (.int .i64 (IntKind.wrap .i64 ((List.getD a2 (Int.toNat a1) 0) - (List.getD a2 (Int.toNat a0) 0))))]) none) none) = some (l_ilongestFirst_1 v) := by
  refine Eq.trans (b := Option.map l_ilongestFirst_1 (s_ilongestFirst_1 a0 a1 a2)) ?_ (by rw [h]; rfl)
  unfold s_ilongestFirst_1
  exact (cond_app (Option.map l_ilongestFirst_1) (cond_app (Option.map l_ilongestFirst_1) rfl rfl) rfl)
noncomputable def c_ilongestFirst_1 : List A → ACall
  | [.v (.int .i64 a0), .v (.int .i64 a1), .ref (.lst (.one (.i .i64)) a2)] => ⟨Int, s_ilongestFirst_1 a0 a1 a2, fun r => .one (.v (.int .i64 r))⟩
  | _ => ACall.fail
theorem f_ilongestFirst_1_sound : Sound Try.prog 53 c_ilongestFirst_1 := by
  refine good f_ilongestFirst_1_ctx f_ilongestFirst_1_LV f_ilongestFirst_1_c f_ilongestFirst_1_rv 3 Try.func53 fun rs => ?_
  unfold c_ilongestFirst_1
  split
  · rename_i a0 a1 a2; intro v h; exact ⟨rfl, l_ilongestFirst_1 v, rfl, (f_ilongestFirst_1_top a0 a1 a2 _).trans (s_ilongestFirst_1_ok a0 a1 a2 v h)⟩
  · intro v h; cases h

/-! ### function 61: slices.insertionSortCmpFunc[int64] -/
noncomputable def f_ginsertionSortCmpFunc_int64_c := codeC Try.f61
noncomputable def f_ginsertionSortCmpFunc_int64_X : Ctx := ⟨TT, phiOf [(53, c_ilongestFirst_1)], noPsi, noXi⟩
def f_ginsertionSortCmpFunc_int64_LV : List (Nat × Keep) := [(1, ([0, 1, 2, 3, 8], [], [])), (4, ([0, 1, 2, 3, 8, 9], [], []))]
def f_ginsertionSortCmpFunc_int64_rv : List ResultVar := []
noncomputable def f_ginsertionSortCmpFunc_int64_hp0 : List (Nat × Option Blk) := [(0, some ⟨true, .arr (.one (.i .i64)) []⟩), (1, some ⟨true, .box (.sl 2)⟩), (2, some ⟨false, .arr (.one (.i .i64)) []⟩)]
noncomputable def f_ginsertionSortCmpFunc_int64_L := LqH 3 f_ginsertionSortCmpFunc_int64_hp0 f_ginsertionSortCmpFunc_int64_X f_ginsertionSortCmpFunc_int64_LV f_ginsertionSortCmpFunc_int64_c f_ginsertionSortCmpFunc_int64_rv
theorem f_ginsertionSortCmpFunc_int64_ctx : CtxOK Try.prog f_ginsertionSortCmpFunc_int64_X := ctx_of tab mix ⟨⟨Try.call53, f_ilongestFirst_1_sound⟩, trivial⟩
noncomputable def f_ginsertionSortCmpFunc_int64_s1 (x0 : Int) (x1 : Int) (x2 : Int) (x3 : (List Int)) (x4 : (List Int)) : AS := ⟨[(0, .a (.sl 0)), (1, .a (.v (.int .i64 x0))), (2, .a (.v (.int .i64 x1))), (3, .a (.clo 53 [.ptr 1 [] (0)])), (8, .a (.v (.int .i64 x2)))], [(0, some ⟨true, .arr (.one (.i .i64)) x3⟩), (1, some ⟨true, .box (.sl 2)⟩), (2, some ⟨false, .arr (.one (.i .i64)) x4⟩)], 3⟩
noncomputable def f_ginsertionSortCmpFunc_int64_s4 (x0 : Int) (x1 : Int) (x2 : Int) (x3 : Int) (x4 : (List Int)) (x5 : (List Int)) : AS := ⟨[(0, .a (.sl 0)), (1, .a (.v (.int .i64 x0))), (2, .a (.v (.int .i64 x1))), (3, .a (.clo 53 [.ptr 1 [] (0)])), (8, .a (.v (.int .i64 x2))), (9, .a (.v (.int .i64 x3)))], [(0, some ⟨true, .arr (.one (.i .i64)) x4⟩), (1, some ⟨true, .box (.sl 2)⟩), (2, some ⟨false, .arr (.one (.i .i64)) x5⟩)], 3⟩
noncomputable def l_ginsertionSortCmpFunc_int64 (r : (List Int)) : HOut := ⟨.tup [], [(0, some ⟨true, .arr (.one (.i .i64)) r⟩), (1, some ⟨true, .box (.sl 2)⟩)], 3⟩
theorem f_ginsertionSortCmpFunc_int64_step4 (x0 : Int) (x1 : Int) (x2 : Int) (x3 : Int) (x4 : (List Int)) (x5 : (List Int)) (r : HOut) (h : (cond (decide (x3 > x0)) (cond (inB x3 (List.length x4)) (cond (inB (IntKind.wrap .i64 (x3 - 1)) (List.length x4)) (Option.bind (s_ilongestFirst_1 (List.getD x4 (Int.toNat x3) 0) (List.getD x4 (Int.toNat (IntKind.wrap .i64 (x3 - 1))) 0) x5) fun r1 => (cond (decide (r1 < 0)) (cond (inB (IntKind.wrap .i64 (x3 - 1)) (List.length x4)) (cond (inB x3 (List.length x4)) (cond (inB x3 (List.length x4)) (cond (inB (IntKind.wrap .i64 (x3 - 1)) (List.length (List.set x4 (Int.toNat x3) (List.getD x4 (Int.toNat (IntKind.wrap .i64 (x3 - 1))) 0)))) (f_ginsertionSortCmpFunc_int64_L r 4 (f_ginsertionSortCmpFunc_int64_s4 x0 x1 x2 (IntKind.wrap .i64 (x3 - 1)) (List.set (List.set x4 (Int.toNat x3) (List.getD x4 (Int.toNat (IntKind.wrap .i64 (x3 - 1))) 0)) (Int.toNat (IntKind.wrap .i64 (x3 - 1))) (List.getD x4 (Int.toNat x3) 0)) x5)) none) none) none) none) (f_ginsertionSortCmpFunc_int64_L r 1 (f_ginsertionSortCmpFunc_int64_s1 x0 x1 (IntKind.wrap .i64 (x2 + 1)) x4 x5)))) none) none) (f_ginsertionSortCmpFunc_int64_L r 1 (f_ginsertionSortCmpFunc_int64_s1 x0 x1 (IntKind.wrap .i64 (x2 + 1)) x4 x5))) = some r) : f_ginsertionSortCmpFunc_int64_L r 4 (f_ginsertionSortCmpFunc_int64_s4 x0 x1 x2 x3 x4 x5) = some r :=
  step_of' h (by kernel_rfl)
noncomputable def f_ginsertionSortCmpFunc_int64_n4 (x0 : Int) (x1 : Int) (x2 : Int) (x3 : Int) (x4 : (List Int)) (x5 : (List Int)) : Option ((Int × Int × Int × Int × (List Int) × (List Int)) ⊕ ((Int × Int × Int × (List Int) × (List Int)) ⊕ (List Int))) := (cond (decide (x3 > x0)) (cond (inB x3 (List.length x4)) (cond (inB (IntKind.wrap .i64 (x3 - 1)) (List.length x4)) (Option.bind (s_ilongestFirst_1 (List.getD x4 (Int.toNat x3) 0) (List.getD x4 (Int.toNat (IntKind.wrap .i64 (x3 - 1))) 0) x5) fun r1 => (cond (decide (r1 < 0)) (cond (inB (IntKind.wrap .i64 (x3 - 1)) (List.length x4)) (cond (inB x3 (List.length x4)) (cond (inB x3 (List.length x4)) (cond (inB (IntKind.wrap .i64 (x3 - 1)) (List.length (List.set x4 (Int.toNat x3) (List.getD x4 (Int.toNat (IntKind.wrap .i64 (x3 - 1))) 0)))) (some (Sum.inl (x0, x1, x2, (IntKind.wrap .i64 (x3 - 1)), (List.set (List.set x4 (Int.toNat x3) (List.getD x4 (Int.toNat (IntKind.wrap .i64 (x3 - 1))) 0)) (Int.toNat (IntKind.wrap .i64 (x3 - 1))) (List.getD x4 (Int.toNat x3) 0)), x5))) none) none) none) none) (some (Sum.inr (Sum.inl (x0, x1, (IntKind.wrap .i64 (x2 + 1)), x4, x5)))))) none) none) (some (Sum.inr (Sum.inl (x0, x1, (IntKind.wrap .i64 (x2 + 1)), x4, x5)))))
noncomputable def f_ginsertionSortCmpFunc_int64_run4 (x : (Int × Int × Int × Int × (List Int) × (List Int))) : Option ((Int × Int × Int × (List Int) × (List Int)) ⊕ (List Int)) := iter (fun x => f_ginsertionSortCmpFunc_int64_n4 x.1 x.2.1 x.2.2.1 x.2.2.2.1 x.2.2.2.2.1 x.2.2.2.2.2) FU x
noncomputable def f_ginsertionSortCmpFunc_int64_G4 (r : HOut) (x : (Int × Int × Int × Int × (List Int) × (List Int))) : Prop := f_ginsertionSortCmpFunc_int64_L r 4 (f_ginsertionSortCmpFunc_int64_s4 x.1 x.2.1 x.2.2.1 x.2.2.2.1 x.2.2.2.2.1 x.2.2.2.2.2) = some r
theorem f_ginsertionSortCmpFunc_int64_step1 (x0 : Int) (x1 : Int) (x2 : Int) (x3 : (List Int)) (x4 : (List Int)) (r : HOut) (h : (cond (decide (x2 < x1)) (f_ginsertionSortCmpFunc_int64_L r 4 (f_ginsertionSortCmpFunc_int64_s4 x0 x1 x2 x2 x3 x4)) (some ⟨.tup [], [(0, some ⟨true, .arr (.one (.i .i64)) x3⟩), (1, some ⟨true, .box (.sl 2)⟩)], 3⟩)) = some r) : f_ginsertionSortCmpFunc_int64_L r 1 (f_ginsertionSortCmpFunc_int64_s1 x0 x1 x2 x3 x4) = some r :=
  step_of' h (by kernel_rfl)
noncomputable def f_ginsertionSortCmpFunc_int64_n1 (x0 : Int) (x1 : Int) (x2 : Int) (x3 : (List Int)) (x4 : (List Int)) : Option ((Int × Int × Int × (List Int) × (List Int)) ⊕ (List Int)) := (cond (decide (x2 < x1)) (f_ginsertionSortCmpFunc_int64_run4 (x0, x1, x2, x2, x3, x4)) (some (Sum.inr x3)))
noncomputable def f_ginsertionSortCmpFunc_int64_run1 (x : (Int × Int × Int × (List Int) × (List Int))) : Option (List Int) := iter (fun x => f_ginsertionSortCmpFunc_int64_n1 x.1 x.2.1 x.2.2.1 x.2.2.2.1 x.2.2.2.2) FU x
noncomputable def f_ginsertionSortCmpFunc_int64_G1 (r : HOut) (x : (Int × Int × Int × (List Int) × (List Int))) : Prop := f_ginsertionSortCmpFunc_int64_L r 1 (f_ginsertionSortCmpFunc_int64_s1 x.1 x.2.1 x.2.2.1 x.2.2.2.1 x.2.2.2.2) = some r
noncomputable def f_ginsertionSortCmpFunc_int64_S1 (r : HOut) : (List Int) → Prop := fun v => r = l_ginsertionSortCmpFunc_int64 v
noncomputable def f_ginsertionSortCmpFunc_int64_S4 (r : HOut) : ((Int × Int × Int × (List Int) × (List Int)) ⊕ (List Int)) → Prop := goesOn (f_ginsertionSortCmpFunc_int64_G1 r) (f_ginsertionSortCmpFunc_int64_S1 r)
theorem f_ginsertionSortCmpFunc_int64_go4 (r : HOut) : ∀ x, sem (f_ginsertionSortCmpFunc_int64_S4 r) (f_ginsertionSortCmpFunc_int64_run4 x) → f_ginsertionSortCmpFunc_int64_G4 r x :=
  fun x => iter_sound (step := fun x => f_ginsertionSortCmpFunc_int64_n4 x.1 x.2.1 x.2.2.1 x.2.2.2.1 x.2.2.2.2.1 x.2.2.2.2.2) (fun x h => by
    unfold f_ginsertionSortCmpFunc_int64_n4 at h
    exact f_ginsertionSortCmpFunc_int64_step4 x.1 x.2.1 x.2.2.1 x.2.2.2.1 x.2.2.2.2.1 x.2.2.2.2.2 r ((sem_cond h (fun h => (sem_cond h (fun h => (sem_cond h (fun h => (sem_bind h fun r1 h => (sem_cond h (fun h => (sem_cond h (fun h => (sem_cond h (fun h => (sem_cond h (fun h => (sem_cond h (fun h => sem_got h fun q => q) (fun h => sem_none h))) (fun h => sem_none h))) (fun h => sem_none h))) (fun h => sem_none h))) (fun h => sem_got h fun q => q)))) (fun h => sem_none h))) (fun h => sem_none h))) (fun h => sem_got h fun q => q)))) FU x
theorem f_ginsertionSortCmpFunc_int64_go1 (r : HOut) : ∀ x, sem (f_ginsertionSortCmpFunc_int64_S1 r) (f_ginsertionSortCmpFunc_int64_run1 x) → f_ginsertionSortCmpFunc_int64_G1 r x :=
  fun x => iter_sound (step := fun x => f_ginsertionSortCmpFunc_int64_n1 x.1 x.2.1 x.2.2.1 x.2.2.2.1 x.2.2.2.2) (fun x h => by
    unfold f_ginsertionSortCmpFunc_int64_n1 at h
    exact f_ginsertionSortCmpFunc_int64_step1 x.1 x.2.1 x.2.2.1 x.2.2.2.1 x.2.2.2.2 r ((sem_cond h (fun h => f_ginsertionSortCmpFunc_int64_go4 r _ h) (fun h => sem_got h fun q => some_eq q)))) FU x
noncomputable def s_ginsertionSortCmpFunc_int64 (a0 : Int) (a1 : Int) (a2 : (List Int)) (a3 : (List Int)) : Option (List Int) := (f_ginsertionSortCmpFunc_int64_run1 (a0, a1, (IntKind.wrap .i64 (a0 + 1)), a2, a3))
theorem f_ginsertionSortCmpFunc_int64_top (a0 : Int) (a1 : Int) (a2 : (List Int)) (a3 : (List Int)) (r : HOut) : TqH 3 f_ginsertionSortCmpFunc_int64_hp0 f_ginsertionSortCmpFunc_int64_X f_ginsertionSortCmpFunc_int64_LV f_ginsertionSortCmpFunc_int64_c f_ginsertionSortCmpFunc_int64_rv r [.sl 0, .v (.int .i64 a0), .v (.int .i64 a1), .clo 53 [.ptr 1 [] (0)]] [(0, some ⟨true, .arr (.one (.i .i64)) a2⟩), (1, some ⟨true, .box (.sl 2)⟩), (2, some ⟨false, .arr (.one (.i .i64)) a3⟩)] = (f_ginsertionSortCmpFunc_int64_L r 1 (f_ginsertionSortCmpFunc_int64_s1 a0 a1 (IntKind.wrap .i64 (a0 + 1)) a2 a3)) := by kernel_rfl
theorem s_ginsertionSortCmpFunc_int64_ok (a0 : Int) (a1 : Int) (a2 : (List Int)) (a3 : (List Int)) (v : (List Int)) (h : s_ginsertionSortCmpFunc_int64 a0 a1 a2 a3 = some v) : (f_ginsertionSortCmpFunc_int64_L (l_ginsertionSortCmpFunc_int64 v) 1 (f_ginsertionSortCmpFunc_int64_s1 a0 a1 (IntKind.wrap .i64 (a0 + 1)) a2 a3)) = some (l_ginsertionSortCmpFunc_int64 v) := by
  replace h : sem (fun w => l_ginsertionSortCmpFunc_int64 v = l_ginsertionSortCmpFunc_int64 w) (s_ginsertionSortCmpFunc_int64 a0 a1 a2 a3) := ⟨v, h, rfl⟩
  unfold s_ginsertionSortCmpFunc_int64 at h
  exact f_ginsertionSortCmpFunc_int64_go1 (l_ginsertionSortCmpFunc_int64 v) _ h
noncomputable def h_ginsertionSortCmpFunc_int64 : HCon := fun xs hp => match xs, hp with
  | [.sl 0, .v (.int .i64 a0), .v (.int .i64 a1), .clo 53 [.ptr 1 [] (0)]], [(0, some ⟨true, .arr (.one (.i .i64)) a2⟩), (1, some ⟨true, .box (.sl 2)⟩), (2, some ⟨false, .arr (.one (.i .i64)) a3⟩)] => .one (List Int) (s_ginsertionSortCmpFunc_int64 a0 a1 a2 a3) l_ginsertionSortCmpFunc_int64
  | _, _ => HAns.fail
theorem f_ginsertionSortCmpFunc_int64_sound : HSound Try.prog 61 h_ginsertionSortCmpFunc_int64 := by
  refine goodH f_ginsertionSortCmpFunc_int64_ctx f_ginsertionSortCmpFunc_int64_LV f_ginsertionSortCmpFunc_int64_c f_ginsertionSortCmpFunc_int64_rv 4 3 f_ginsertionSortCmpFunc_int64_hp0 Try.func61 fun xs hp => ?_
  unfold h_ginsertionSortCmpFunc_int64
  split
  · rename_i a0 a1 a2 a3; intro v h; exact ⟨rfl, ⟨rfl, rfl⟩, (f_ginsertionSortCmpFunc_int64_top a0 a1 a2 a3 _).trans (s_ginsertionSortCmpFunc_int64_ok a0 a1 a2 a3 v h)⟩
  · intro v h; cases h
noncomputable def m_ginsertionSortCmpFunc_int64 : List A → List (Nat × Option Blk) → Bool
  | [.sl 0, .v (.int .i64 a0), .v (.int .i64 a1), .clo 53 [.ptr 1 [] (0)]], [(0, some ⟨true, .arr (.one (.i .i64)) a2⟩), (1, some ⟨true, .box (.sl 2)⟩), (2, some ⟨false, .arr (.one (.i .i64)) a3⟩)] => true
  | _, _ => false

/-! ### function 59: slices.stableCmpFunc[int64] -/
noncomputable def f_gstableCmpFunc_int64_c := codeC Try.f59
noncomputable def f_gstableCmpFunc_int64_X : Ctx := ⟨TT, phiOf [], noPsi, (xiOf [(61, h_ginsertionSortCmpFunc_int64)])⟩
def f_gstableCmpFunc_int64_LV : List (Nat × Keep) := [(2, ([0, 1, 2, 6, 7, 8], [], [])), (7, ([0, 1, 2, 6], [], [])), (9, ([0, 1, 2, 6, 7, 8], [], []))]
def f_gstableCmpFunc_int64_rv : List ResultVar := []
noncomputable def f_gstableCmpFunc_int64_hp0 : List (Nat × Option Blk) := [(0, some ⟨true, .arr (.one (.i .i64)) []⟩), (1, some ⟨true, .box (.sl 2)⟩), (2, some ⟨false, .arr (.one (.i .i64)) []⟩)]
noncomputable def f_gstableCmpFunc_int64_L := LqH 3 f_gstableCmpFunc_int64_hp0 f_gstableCmpFunc_int64_X f_gstableCmpFunc_int64_LV f_gstableCmpFunc_int64_c f_gstableCmpFunc_int64_rv
theorem f_gstableCmpFunc_int64_ctx : CtxOK Try.prog f_gstableCmpFunc_int64_X := ctx_ofH tab mix (l := []) trivial psi_no (xi_ok (l := [(61, h_ginsertionSortCmpFunc_int64)]) ⟨⟨Try.call61, f_ginsertionSortCmpFunc_int64_sound⟩, trivial⟩)
noncomputable def f_gstableCmpFunc_int64_s2 (x0 : Int) (x1 : Int) (x2 : Int) (x3 : Int) (x4 : (List Int)) (x5 : (List Int)) : AS := ⟨[(0, .a (.sl 0)), (1, .a (.v (.int .i64 x0))), (2, .a (.clo 53 [.ptr 1 [] (0)])), (6, .a (.v (.int .i64 x1))), (7, .a (.v (.int .i64 x2))), (8, .a (.v (.int .i64 x3)))], [(0, some ⟨true, .arr (.one (.i .i64)) x4⟩), (1, some ⟨true, .box (.sl 2)⟩), (2, some ⟨false, .arr (.one (.i .i64)) x5⟩)], 3⟩
noncomputable def f_gstableCmpFunc_int64_s7 (x0 : Int) (x1 : Int) (x2 : (List Int)) (x3 : (List Int)) : AS := ⟨[(0, .a (.sl 0)), (1, .a (.v (.int .i64 x0))), (2, .a (.clo 53 [.ptr 1 [] (0)])), (6, .a (.v (.int .i64 x1)))], [(0, some ⟨true, .arr (.one (.i .i64)) x2⟩), (1, some ⟨true, .box (.sl 2)⟩), (2, some ⟨false, .arr (.one (.i .i64)) x3⟩)], 3⟩
noncomputable def f_gstableCmpFunc_int64_s9 (x0 : Int) (x1 : Int) (x2 : Int) (x3 : Int) (x4 : (List Int)) (x5 : (List Int)) : AS := ⟨[(0, .a (.sl 0)), (1, .a (.v (.int .i64 x0))), (2, .a (.clo 53 [.ptr 1 [] (0)])), (6, .a (.v (.int .i64 x1))), (7, .a (.v (.int .i64 x2))), (8, .a (.v (.int .i64 x3)))], [(0, some ⟨true, .arr (.one (.i .i64)) x4⟩), (1, some ⟨true, .box (.sl 2)⟩), (2, some ⟨false, .arr (.one (.i .i64)) x5⟩)], 3⟩
noncomputable def l_gstableCmpFunc_int64 (r : (List Int)) : HOut := ⟨.tup [], [(0, some ⟨true, .arr (.one (.i .i64)) r⟩), (1, some ⟨true, .box (.sl 2)⟩)], 3⟩
theorem f_gstableCmpFunc_int64_step9 (x0 : Int) (x1 : Int) (x2 : Int) (x3 : Int) (x4 : (List Int)) (x5 : (List Int)) (r : HOut) (h : (cond (decide (x3 ≤ x0)) none (cond (decide ((IntKind.wrap .i64 (x2 + x1)) < x0)) none (f_gstableCmpFunc_int64_L r 7 (f_gstableCmpFunc_int64_s7 x0 (IntKind.wrap .i64 (x1 * 2)) x4 x5)))) = some r) : f_gstableCmpFunc_int64_L r 9 (f_gstableCmpFunc_int64_s9 x0 x1 x2 x3 x4 x5) = some r :=
  step_of' h (by kernel_rfl)
noncomputable def f_gstableCmpFunc_int64_n9 (x0 : Int) (x1 : Int) (x2 : Int) (x3 : Int) (x4 : (List Int)) (x5 : (List Int)) : Option ((Int × Int × Int × Int × (List Int) × (List Int)) ⊕ ((Int × Int × (List Int) × (List Int)) ⊕ (List Int))) := (cond (decide (x3 ≤ x0)) none (cond (decide ((IntKind.wrap .i64 (x2 + x1)) < x0)) none (some (Sum.inr (Sum.inl (x0, (IntKind.wrap .i64 (x1 * 2)), x4, x5))))))
noncomputable def f_gstableCmpFunc_int64_run9 (x : (Int × Int × Int × Int × (List Int) × (List Int))) : Option ((Int × Int × (List Int) × (List Int)) ⊕ (List Int)) := iter (fun x => f_gstableCmpFunc_int64_n9 x.1 x.2.1 x.2.2.1 x.2.2.2.1 x.2.2.2.2.1 x.2.2.2.2.2) FU x
noncomputable def f_gstableCmpFunc_int64_G9 (r : HOut) (x : (Int × Int × Int × Int × (List Int) × (List Int))) : Prop := f_gstableCmpFunc_int64_L r 9 (f_gstableCmpFunc_int64_s9 x.1 x.2.1 x.2.2.1 x.2.2.2.1 x.2.2.2.2.1 x.2.2.2.2.2) = some r
theorem f_gstableCmpFunc_int64_step7 (x0 : Int) (x1 : Int) (x2 : (List Int)) (x3 : (List Int)) (r : HOut) (h : (cond (decide (x1 < x0)) (f_gstableCmpFunc_int64_L r 9 (f_gstableCmpFunc_int64_s9 x0 x1 0 (IntKind.wrap .i64 (2 * x1)) x2 x3)) (some ⟨.tup [], [(0, some ⟨true, .arr (.one (.i .i64)) x2⟩), (1, some ⟨true, .box (.sl 2)⟩)], 3⟩)) = some r) : f_gstableCmpFunc_int64_L r 7 (f_gstableCmpFunc_int64_s7 x0 x1 x2 x3) = some r :=
  step_of' h (by kernel_rfl)
noncomputable def f_gstableCmpFunc_int64_n7 (x0 : Int) (x1 : Int) (x2 : (List Int)) (x3 : (List Int)) : Option ((Int × Int × (List Int) × (List Int)) ⊕ (List Int)) := (cond (decide (x1 < x0)) (f_gstableCmpFunc_int64_run9 (x0, x1, 0, (IntKind.wrap .i64 (2 * x1)), x2, x3)) (some (Sum.inr x2)))
noncomputable def f_gstableCmpFunc_int64_run7 (x : (Int × Int × (List Int) × (List Int))) : Option (List Int) := iter (fun x => f_gstableCmpFunc_int64_n7 x.1 x.2.1 x.2.2.1 x.2.2.2) FU x
noncomputable def f_gstableCmpFunc_int64_G7 (r : HOut) (x : (Int × Int × (List Int) × (List Int))) : Prop := f_gstableCmpFunc_int64_L r 7 (f_gstableCmpFunc_int64_s7 x.1 x.2.1 x.2.2.1 x.2.2.2) = some r
theorem f_gstableCmpFunc_int64_step2 (x0 : Int) (x1 : Int) (x2 : Int) (x3 : Int) (x4 : (List Int)) (x5 : (List Int)) (r : HOut) (h : (cond (decide (x3 ≤ x0)) (Option.bind (s_ginsertionSortCmpFunc_int64 x2 x3 x4 x5) fun r1 => (f_gstableCmpFunc_int64_L r 2 (f_gstableCmpFunc_int64_s2 x0 x1 x3 (IntKind.wrap .i64 (x3 + x1)) r1 x5))) (Option.bind (s_ginsertionSortCmpFunc_int64 x2 x0 x4 x5) fun r2 => (f_gstableCmpFunc_int64_L r 7 (f_gstableCmpFunc_int64_s7 x0 x1 r2 x5)))) = some r) : f_gstableCmpFunc_int64_L r 2 (f_gstableCmpFunc_int64_s2 x0 x1 x2 x3 x4 x5) = some r :=
  step_of' h (by kernel_rfl)
noncomputable def f_gstableCmpFunc_int64_n2 (x0 : Int) (x1 : Int) (x2 : Int) (x3 : Int) (x4 : (List Int)) (x5 : (List Int)) : Option ((Int × Int × Int × Int × (List Int) × (List Int)) ⊕ (List Int)) := (cond (decide (x3 ≤ x0)) (Option.bind (s_ginsertionSortCmpFunc_int64 x2 x3 x4 x5) fun r1 => (some (Sum.inl (x0, x1, x3, (IntKind.wrap .i64 (x3 + x1)), r1, x5)))) (Option.bind (s_ginsertionSortCmpFunc_int64 x2 x0 x4 x5) fun r2 => (Option.map (fun x => (Sum.inr x)) (f_gstableCmpFunc_int64_run7 (x0, x1, r2, x5)))))
noncomputable def f_gstableCmpFunc_int64_run2 (x : (Int × Int × Int × Int × (List Int) × (List Int))) : Option (List Int) := iter (fun x => f_gstableCmpFunc_int64_n2 x.1 x.2.1 x.2.2.1 x.2.2.2.1 x.2.2.2.2.1 x.2.2.2.2.2) FU x
noncomputable def f_gstableCmpFunc_int64_G2 (r : HOut) (x : (Int × Int × Int × Int × (List Int) × (List Int))) : Prop := f_gstableCmpFunc_int64_L r 2 (f_gstableCmpFunc_int64_s2 x.1 x.2.1 x.2.2.1 x.2.2.2.1 x.2.2.2.2.1 x.2.2.2.2.2) = some r
noncomputable def f_gstableCmpFunc_int64_S7 (r : HOut) : (List Int) → Prop := fun v => r = l_gstableCmpFunc_int64 v
noncomputable def f_gstableCmpFunc_int64_S9 (r : HOut) : ((Int × Int × (List Int) × (List Int)) ⊕ (List Int)) → Prop := goesOn (f_gstableCmpFunc_int64_G7 r) (f_gstableCmpFunc_int64_S7 r)
noncomputable def f_gstableCmpFunc_int64_S2 (r : HOut) : (List Int) → Prop := fun v => r = l_gstableCmpFunc_int64 v
theorem f_gstableCmpFunc_int64_go9 (r : HOut) : ∀ x, sem (f_gstableCmpFunc_int64_S9 r) (f_gstableCmpFunc_int64_run9 x) → f_gstableCmpFunc_int64_G9 r x :=
  fun x => iter_sound (step := fun x => f_gstableCmpFunc_int64_n9 x.1 x.2.1 x.2.2.1 x.2.2.2.1 x.2.2.2.2.1 x.2.2.2.2.2) (fun x h => by
    unfold f_gstableCmpFunc_int64_n9 at h
    exact f_gstableCmpFunc_int64_step9 x.1 x.2.1 x.2.2.1 x.2.2.2.1 x.2.2.2.2.1 x.2.2.2.2.2 r ((sem_cond h (fun h => sem_none h) (fun h => (sem_cond h (fun h => sem_none h) (fun h => sem_got h fun q => q)))))) FU x
theorem f_gstableCmpFunc_int64_go7 (r : HOut) : ∀ x, sem (f_gstableCmpFunc_int64_S7 r) (f_gstableCmpFunc_int64_run7 x) → f_gstableCmpFunc_int64_G7 r x :=
  fun x => iter_sound (step := fun x => f_gstableCmpFunc_int64_n7 x.1 x.2.1 x.2.2.1 x.2.2.2) (fun x h => by
    unfold f_gstableCmpFunc_int64_n7 at h
    exact f_gstableCmpFunc_int64_step7 x.1 x.2.1 x.2.2.1 x.2.2.2 r ((sem_cond h (fun h => f_gstableCmpFunc_int64_go9 r _ h) (fun h => sem_got h fun q => some_eq q)))) FU x
theorem f_gstableCmpFunc_int64_go2 (r : HOut) : ∀ x, sem (f_gstableCmpFunc_int64_S2 r) (f_gstableCmpFunc_int64_run2 x) → f_gstableCmpFunc_int64_G2 r x :=
  fun x => iter_sound (step := fun x => f_gstableCmpFunc_int64_n2 x.1 x.2.1 x.2.2.1 x.2.2.2.1 x.2.2.2.2.1 x.2.2.2.2.2) (fun x h => by
    unfold f_gstableCmpFunc_int64_n2 at h
    exact f_gstableCmpFunc_int64_step2 x.1 x.2.1 x.2.2.1 x.2.2.2.1 x.2.2.2.2.1 x.2.2.2.2.2 r ((sem_cond h (fun h => (sem_bind h fun r1 h => sem_got h fun q => q)) (fun h => (sem_bind h fun r2 h => f_gstableCmpFunc_int64_go7 r _ (sem_mapk h fun _ q => q)))))) FU x
noncomputable def s_gstableCmpFunc_int64 (a0 : Int) (a1 : (List Int)) (a2 : (List Int)) : Option (List Int) := (f_gstableCmpFunc_int64_run2 (a0, 20, 0, 20, a1, a2))
theorem f_gstableCmpFunc_int64_top (a0 : Int) (a1 : (List Int)) (a2 : (List Int)) (r : HOut) : TqH 3 f_gstableCmpFunc_int64_hp0 f_gstableCmpFunc_int64_X f_gstableCmpFunc_int64_LV f_gstableCmpFunc_int64_c f_gstableCmpFunc_int64_rv r [.sl 0, .v (.int .i64 a0), .clo 53 [.ptr 1 [] (0)]] [(0, some ⟨true, .arr (.one (.i .i64)) a1⟩), (1, some ⟨true, .box (.sl 2)⟩), (2, some ⟨false, .arr (.one (.i .i64)) a2⟩)] = (f_gstableCmpFunc_int64_L r 2 (f_gstableCmpFunc_int64_s2 a0 20 0 20 a1 a2)) := by kernel_rfl
theorem s_gstableCmpFunc_int64_ok (a0 : Int) (a1 : (List Int)) (a2 : (List Int)) (v : (List Int)) (h : s_gstableCmpFunc_int64 a0 a1 a2 = some v) : (f_gstableCmpFunc_int64_L (l_gstableCmpFunc_int64 v) 2 (f_gstableCmpFunc_int64_s2 a0 20 0 20 a1 a2)) = some (l_gstableCmpFunc_int64 v) := by
  replace h : sem (fun w => l_gstableCmpFunc_int64 v = l_gstableCmpFunc_int64 w) (s_gstableCmpFunc_int64 a0 a1 a2) := ⟨v, h, rfl⟩
  unfold s_gstableCmpFunc_int64 at h
  exact f_gstableCmpFunc_int64_go2 (l_gstableCmpFunc_int64 v) _ h
noncomputable def h_gstableCmpFunc_int64 : HCon := fun xs hp => match xs, hp with
  | [.sl 0, .v (.int .i64 a0), .clo 53 [.ptr 1 [] (0)]], [(0, some ⟨true, .arr (.one (.i .i64)) a1⟩), (1, some ⟨true, .box (.sl 2)⟩), (2, some ⟨false, .arr (.one (.i .i64)) a2⟩)] => .one (List Int) (s_gstableCmpFunc_int64 a0 a1 a2) l_gstableCmpFunc_int64
  | _, _ => HAns.fail
theorem f_gstableCmpFunc_int64_sound : HSound Try.prog 59 h_gstableCmpFunc_int64 := by
  refine goodH f_gstableCmpFunc_int64_ctx f_gstableCmpFunc_int64_LV f_gstableCmpFunc_int64_c f_gstableCmpFunc_int64_rv 3 3 f_gstableCmpFunc_int64_hp0 Try.func59 fun xs hp => ?_
  unfold h_gstableCmpFunc_int64
  split
  · rename_i a0 a1 a2; intro v h; exact ⟨rfl, ⟨rfl, rfl⟩, (f_gstableCmpFunc_int64_top a0 a1 a2 _).trans (s_gstableCmpFunc_int64_ok a0 a1 a2 v h)⟩
  · intro v h; cases h
noncomputable def m_gstableCmpFunc_int64 : List A → List (Nat × Option Blk) → Bool
  | [.sl 0, .v (.int .i64 a0), .clo 53 [.ptr 1 [] (0)]], [(0, some ⟨true, .arr (.one (.i .i64)) a1⟩), (1, some ⟨true, .box (.sl 2)⟩), (2, some ⟨false, .arr (.one (.i .i64)) a2⟩)] => true
  | _, _ => false

/-! ### function 52: slices.SortStableFunc[[]int64,int64] -/
noncomputable def f_gSortStableFunc_int64_c := codeC Try.f52
noncomputable def f_gSortStableFunc_int64_X : Ctx := ⟨TT, phiOf [], noPsi, (xiOf [(59, h_gstableCmpFunc_int64)])⟩
def f_gSortStableFunc_int64_LV : List (Nat × Keep) := []
def f_gSortStableFunc_int64_rv : List ResultVar := []
noncomputable def f_gSortStableFunc_int64_hp0 : List (Nat × Option Blk) := [(0, some ⟨true, .arr (.one (.i .i64)) []⟩), (1, some ⟨true, .box (.sl 2)⟩), (2, some ⟨false, .arr (.one (.i .i64)) []⟩)]
noncomputable def f_gSortStableFunc_int64_L := LqH 3 f_gSortStableFunc_int64_hp0 f_gSortStableFunc_int64_X f_gSortStableFunc_int64_LV f_gSortStableFunc_int64_c f_gSortStableFunc_int64_rv
theorem f_gSortStableFunc_int64_ctx : CtxOK Try.prog f_gSortStableFunc_int64_X := ctx_ofH tab mix (l := []) trivial psi_no (xi_ok (l := [(59, h_gstableCmpFunc_int64)]) ⟨⟨Try.call59, f_gstableCmpFunc_int64_sound⟩, trivial⟩)
noncomputable def s_gSortStableFunc_int64 (a0 : (List Int)) (a1 : (List Int)) : Option (List Int) := (Option.bind (s_gstableCmpFunc_int64 ((List.length a0 : Nat) : Int) a0 a1) fun r1 => (some r1))
theorem f_gSortStableFunc_int64_top (a0 : (List Int)) (a1 : (List Int)) (r : HOut) : TqH 3 f_gSortStableFunc_int64_hp0 f_gSortStableFunc_int64_X f_gSortStableFunc_int64_LV f_gSortStableFunc_int64_c f_gSortStableFunc_int64_rv r [.sl 0, .clo 53 [.ptr 1 [] (0)]] [(0, some ⟨true, .arr (.one (.i .i64)) a0⟩), (1, some ⟨true, .box (.sl 2)⟩), (2, some ⟨false, .arr (.one (.i .i64)) a1⟩)] = (Option.bind (s_gstableCmpFunc_int64 ((List.length a0 : Nat) : Int) a0 a1) fun r1 => (some ⟨.tup [], [(0, some ⟨true, .arr (.one (.i .i64)) r1⟩), (1, some ⟨true, .box (.sl 2)⟩)], 3⟩)) := by kernel_rfl
noncomputable def l_gSortStableFunc_int64 (r : (List Int)) : HOut := ⟨.tup [], [(0, some ⟨true, .arr (.one (.i .i64)) r⟩), (1, some ⟨true, .box (.sl 2)⟩)], 3⟩
theorem s_gSortStableFunc_int64_ok (a0 : (List Int)) (a1 : (List Int)) (v : (List Int)) (h : s_gSortStableFunc_int64 a0 a1 = some v) : (Option.bind (s_gstableCmpFunc_int64 ((List.length a0 : Nat) : Int) a0 a1) fun r1 => (some ⟨.tup [], [(0, some ⟨true, .arr (.one (.i .i64)) r1⟩), (1, some ⟨true, .box (.sl 2)⟩)], 3⟩)) = some (l_gSortStableFunc_int64 v) := by
  refine Eq.trans (b := Option.map l_gSortStableFunc_int64 (s_gSortStableFunc_int64 a0 a1)) ?_ (by rw [h]; rfl)
  unfold s_gSortStableFunc_int64
  exact (bind_app fun _ => rfl)
noncomputable def h_gSortStableFunc_int64 : HCon := fun xs hp => match xs, hp with
  | [.sl 0, .clo 53 [.ptr 1 [] (0)]], [(0, some ⟨true, .arr (.one (.i .i64)) a0⟩), (1, some ⟨true, .box (.sl 2)⟩), (2, some ⟨false, .arr (.one (.i .i64)) a1⟩)] => .one (List Int) (s_gSortStableFunc_int64 a0 a1) l_gSortStableFunc_int64
  | _, _ => HAns.fail
theorem f_gSortStableFunc_int64_sound : HSound Try.prog 52 h_gSortStableFunc_int64 := by
  refine goodH f_gSortStableFunc_int64_ctx f_gSortStableFunc_int64_LV f_gSortStableFunc_int64_c f_gSortStableFunc_int64_rv 2 3 f_gSortStableFunc_int64_hp0 Try.func52 fun xs hp => ?_
  unfold h_gSortStableFunc_int64
  split
  · rename_i a0 a1; intro v h; exact ⟨rfl, ⟨rfl, rfl⟩, (f_gSortStableFunc_int64_top a0 a1 _).trans (s_gSortStableFunc_int64_ok a0 a1 v h)⟩
  · intro v h; cases h
noncomputable def m_gSortStableFunc_int64 : List A → List (Nat × Option Blk) → Bool
  | [.sl 0, .clo 53 [.ptr 1 [] (0)]], [(0, some ⟨true, .arr (.one (.i .i64)) a0⟩), (1, some ⟨true, .box (.sl 2)⟩), (2, some ⟨false, .arr (.one (.i .i64)) a1⟩)] => true
  | _, _ => false

/-! ### function 37: loop.example/g01322/impl.longestFirst -/
noncomputable def f_ilongestFirst_c := codeC Try.f37
noncomputable def f_ilongestFirst_X : Ctx := ⟨TT, phiOf [], noPsi, (xiOf [(52, h_gSortStableFunc_int64)])⟩
def f_ilongestFirst_LV : List (Nat × Keep) := [(3, ([1, 3, 7, 8], [], []))]
def f_ilongestFirst_rv : List ResultVar := [.tmp 2]
noncomputable def f_ilongestFirst_L := Lq f_ilongestFirst_X f_ilongestFirst_LV f_ilongestFirst_c f_ilongestFirst_rv
theorem f_ilongestFirst_ctx : CtxOK Try.prog f_ilongestFirst_X := ctx_ofH tab mix (l := []) trivial psi_no (xi_ok (l := [(52, h_gSortStableFunc_int64)]) ⟨⟨Try.call52, f_gSortStableFunc_int64_sound⟩, trivial⟩)
noncomputable def f_ilongestFirst_s3 (x0 : Int) (x1 : Int) (x2 : (List Int)) (x3 : (List Int)) : AS := ⟨[(1, .a (.ptr 0 [] (0))), (3, .a (.sl 2)), (7, .a (.v (.int .i64 x0))), (8, .a (.v (.int .i64 x1)))], [(0, some ⟨true, .box (.sl 1)⟩), (1, some ⟨false, .arr (.one (.i .i64)) x2⟩), (2, some ⟨true, .arr (.one (.i .i64)) x3⟩)], 3⟩
noncomputable def l_ilongestFirst (r : (List Int)) : List A := [.lst (.one (.i .i64)) r]
theorem f_ilongestFirst_step3 (x0 : Int) (x1 : Int) (x2 : (List Int)) (x3 : (List Int)) (r : List A) (h : (cond (decide (x1 < x0)) (cond (fits ((List.length (x3 : List Int) + List.length ([x1] : List Int)) * 8)) (f_ilongestFirst_L r 3 (f_ilongestFirst_s3 x0 (IntKind.wrap .i64 (x1 + 1)) x2 (x3 ++ [x1]))) none) (Option.bind (s_gSortStableFunc_int64 x3 x2) fun r1 => (some [.lst (.one (.i .i64)) r1]))) = some r) : f_ilongestFirst_L r 3 (f_ilongestFirst_s3 x0 x1 x2 x3) = some r :=
  step_of' h (by kernel_rfl)
noncomputable def f_ilongestFirst_n3 (x0 : Int) (x1 : Int) (x2 : (List Int)) (x3 : (List Int)) : Option ((Int × Int × (List Int) × (List Int)) ⊕ (List Int)) := (cond (decide (x1 < x0)) (cond (fits ((List.length (x3 : List Int) + List.length ([x1] : List Int)) * 8)) (some (Sum.inl (x0, (IntKind.wrap .i64 (x1 + 1)), x2, (x3 ++ [x1])))) none) (Option.bind (s_gSortStableFunc_int64 x3 x2) fun r1 => (some (Sum.inr r1))))
noncomputable def f_ilongestFirst_run3 (x : (Int × Int × (List Int) × (List Int))) : Option (List Int) := iter (fun x => f_ilongestFirst_n3 x.1 x.2.1 x.2.2.1 x.2.2.2) FU x
noncomputable def f_ilongestFirst_G3 (r : List A) (x : (Int × Int × (List Int) × (List Int))) : Prop := f_ilongestFirst_L r 3 (f_ilongestFirst_s3 x.1 x.2.1 x.2.2.1 x.2.2.2) = some r
noncomputable def f_ilongestFirst_S3 (r : List A) : (List Int) → Prop := fun v => r = l_ilongestFirst v
theorem f_ilongestFirst_go3 (r : List A) : ∀ x, sem (f_ilongestFirst_S3 r) (f_ilongestFirst_run3 x) → f_ilongestFirst_G3 r x :=
  fun x => iter_sound (step := fun x => f_ilongestFirst_n3 x.1 x.2.1 x.2.2.1 x.2.2.2) (fun x h => by
    unfold f_ilongestFirst_n3 at h
    exact f_ilongestFirst_step3 x.1 x.2.1 x.2.2.1 x.2.2.2 r ((sem_cond h (fun h => (sem_cond h (fun h => sem_got h fun q => q) (fun h => sem_none h))) (fun h => (sem_bind h fun r1 h => sem_got h fun q => some_eq q))))) FU x
noncomputable def s_ilongestFirst (a0 : (List Int)) : Option (List Int) := (f_ilongestFirst_run3 (((List.length a0 : Nat) : Int), 0, a0, []))
theorem f_ilongestFirst_top (a0 : (List Int)) (r : List A) : Tq f_ilongestFirst_X f_ilongestFirst_LV f_ilongestFirst_c f_ilongestFirst_rv r [.lst (.one (.i .i64)) a0] = (f_ilongestFirst_L r 3 (f_ilongestFirst_s3 ((List.length a0 : Nat) : Int) 0 a0 [])) := by kernel_rfl
theorem s_ilongestFirst_ok (a0 : (List Int)) (v : (List Int)) (h : s_ilongestFirst a0 = some v) : (f_ilongestFirst_L (l_ilongestFirst v) 3 (f_ilongestFirst_s3 ((List.length a0 : Nat) : Int) 0 a0 [])) = some (l_ilongestFirst v) := by
  replace h : sem (fun w => l_ilongestFirst v = l_ilongestFirst w) (s_ilongestFirst a0) := ⟨v, h, rfl⟩
  unfold s_ilongestFirst at h
  exact f_ilongestFirst_go3 (l_ilongestFirst v) _ h
noncomputable def c_ilongestFirst : List A → ACall
  | [.lst (.one (.i .i64)) a0] => ⟨(List Int), s_ilongestFirst a0, fun r => .one (.lst (.one (.i .i64)) r)⟩
  | _ => ACall.fail
theorem f_ilongestFirst_sound : Sound Try.prog 37 c_ilongestFirst := by
  refine good f_ilongestFirst_ctx f_ilongestFirst_LV f_ilongestFirst_c f_ilongestFirst_rv 1 Try.func37 fun rs => ?_
  unfold c_ilongestFirst
  split
  · rename_i a0; intro v h; exact ⟨rfl, l_ilongestFirst v, rfl, (f_ilongestFirst_top a0 _).trans (s_ilongestFirst_ok a0 v h)⟩
  · intro v h; cases h

/-! ### function 33: loop.example/g01322/spec.l04Sawn -/
noncomputable def f_sl04Sawn_c := codeC Try.f33
noncomputable def f_sl04Sawn_X : Ctx := ⟨TT, phiOf [(21, c_sl00In)], noPsi, noXi⟩
def f_sl04Sawn_LV : List (Nat × Keep) := [(2, ([0, 1, 2, 7], [], []))]
def f_sl04Sawn_rv : List ResultVar := [.tmp 6]
noncomputable def f_sl04Sawn_L := Lq f_sl04Sawn_X f_sl04Sawn_LV f_sl04Sawn_c f_sl04Sawn_rv
theorem f_sl04Sawn_ctx : CtxOK Try.prog f_sl04Sawn_X := ctx_of tab mix ⟨⟨Try.call21, f_sl00In_sound⟩, trivial⟩
noncomputable def f_sl04Sawn_s2 (x0 : Int) (x1 : Int) (x2 : Int) (x3 : (List Int)) : AS := ⟨[(0, .a (.v (.int .i64 x0))), (1, .a (.v (.int .i64 x1))), (2, .a (.sl 0)), (7, .a (.v (.int .i64 x2)))], [(0, some ⟨false, .arr (.one (.i .i64)) x3⟩)], 1⟩
noncomputable def l_sl04Sawn (r : Bool) : List A := [.v (.bool r)]
theorem f_sl04Sawn_step2 (x0 : Int) (x1 : Int) (x2 : Int) (x3 : (List Int)) (r : List A) (h : (cond (decide (x2 < ((List.length x3 : Nat) : Int))) (cond (inB x2 (List.length x3)) (cond (!(s_sl00In (List.getD x3 (Int.toNat x2) 0) 1 x0)) (some [.v (.bool false)]) (f_sl04Sawn_L r 2 (f_sl04Sawn_s2 x0 x1 (IntKind.wrap .i64 (x2 + 1)) x3))) none) (cond (s_sl00In x0 1 10000) (cond (s_sl00In x1 0 10000) (some [.v (.bool (decide (((List.length x3 : Nat) : Int) ≤ 14)))]) (some [.v (.bool false)])) (some [.v (.bool false)]))) = some r) : f_sl04Sawn_L r 2 (f_sl04Sawn_s2 x0 x1 x2 x3) = some r :=
  step_of' h (by kernel_rfl)
noncomputable def f_sl04Sawn_n2 (x0 : Int) (x1 : Int) (x2 : Int) (x3 : (List Int)) : Option ((Int × Int × Int × (List Int)) ⊕ Bool) := (cond (decide (x2 < ((List.length x3 : Nat) : Int))) (cond (inB x2 (List.length x3)) (cond (!(s_sl00In (List.getD x3 (Int.toNat x2) 0) 1 x0)) (some (Sum.inr false)) (some (Sum.inl (x0, x1, (IntKind.wrap .i64 (x2 + 1)), x3)))) none) (cond (s_sl00In x0 1 10000) (cond (s_sl00In x1 0 10000) (some (Sum.inr (decide (((List.length x3 : Nat) : Int) ≤ 14)))) (some (Sum.inr false))) (some (Sum.inr false))))
noncomputable def f_sl04Sawn_run2 (x : (Int × Int × Int × (List Int))) : Option Bool := iter (fun x => f_sl04Sawn_n2 x.1 x.2.1 x.2.2.1 x.2.2.2) FU x
noncomputable def f_sl04Sawn_G2 (r : List A) (x : (Int × Int × Int × (List Int))) : Prop := f_sl04Sawn_L r 2 (f_sl04Sawn_s2 x.1 x.2.1 x.2.2.1 x.2.2.2) = some r
noncomputable def f_sl04Sawn_S2 (r : List A) : Bool → Prop := fun v => r = l_sl04Sawn v
theorem f_sl04Sawn_go2 (r : List A) : ∀ x, sem (f_sl04Sawn_S2 r) (f_sl04Sawn_run2 x) → f_sl04Sawn_G2 r x :=
  fun x => iter_sound (step := fun x => f_sl04Sawn_n2 x.1 x.2.1 x.2.2.1 x.2.2.2) (fun x h => by
    unfold f_sl04Sawn_n2 at h
    exact f_sl04Sawn_step2 x.1 x.2.1 x.2.2.1 x.2.2.2 r ((sem_cond h (fun h => (sem_cond h (fun h => (sem_cond h (fun h => sem_got h fun q => some_eq q) (fun h => sem_got h fun q => q))) (fun h => sem_none h))) (fun h => (sem_cond h (fun h => (sem_cond h (fun h => sem_got h fun q => some_eq q) (fun h => sem_got h fun q => some_eq q))) (fun h => sem_got h fun q => some_eq q)))))) FU x
noncomputable def s_sl04Sawn (a0 : Int) (a1 : Int) (a2 : (List Int)) : Option Bool := (f_sl04Sawn_run2 (a0, a1, 0, a2))
theorem f_sl04Sawn_top (a0 : Int) (a1 : Int) (a2 : (List Int)) (r : List A) : Tq f_sl04Sawn_X f_sl04Sawn_LV f_sl04Sawn_c f_sl04Sawn_rv r [.v (.int .i64 a0), .v (.int .i64 a1), .lst (.one (.i .i64)) a2] = (f_sl04Sawn_L r 2 (f_sl04Sawn_s2 a0 a1 0 a2)) := by kernel_rfl
theorem s_sl04Sawn_ok (a0 : Int) (a1 : Int) (a2 : (List Int)) (v : Bool) (h : s_sl04Sawn a0 a1 a2 = some v) : (f_sl04Sawn_L (l_sl04Sawn v) 2 (f_sl04Sawn_s2 a0 a1 0 a2)) = some (l_sl04Sawn v) := by
  replace h : sem (fun w => l_sl04Sawn v = l_sl04Sawn w) (s_sl04Sawn a0 a1 a2) := ⟨v, h, rfl⟩
  unfold s_sl04Sawn at h
  exact f_sl04Sawn_go2 (l_sl04Sawn v) _ h
noncomputable def c_sl04Sawn : List A → ACall
  | [.v (.int .i64 a0), .v (.int .i64 a1), .lst (.one (.i .i64)) a2] => ⟨Bool, s_sl04Sawn a0 a1 a2, fun r => .one (.v (.bool r))⟩
  | _ => ACall.fail
theorem f_sl04Sawn_sound : Sound Try.prog 33 c_sl04Sawn := by
  refine good f_sl04Sawn_ctx f_sl04Sawn_LV f_sl04Sawn_c f_sl04Sawn_rv 3 Try.func33 fun rs => ?_
  unfold c_sl04Sawn
  split
  · rename_i a0 a1 a2; intro v h; exact ⟨rfl, l_sl04Sawn v, rfl, (f_sl04Sawn_top a0 a1 a2 _).trans (s_sl04Sawn_ok a0 a1 a2 v h)⟩
  · intro v h; cases h

/-! ### function 34: loop.example/g01322/spec.l04Longest -/
noncomputable def f_sl04Longest_c := codeC Try.f34
noncomputable def f_sl04Longest_X : Ctx := ⟨TT, phiOf [], noPsi, noXi⟩
def f_sl04Longest_LV : List (Nat × Keep) := [(3, ([0, 3, 4], [], [])), (7, ([0, 3, 4, 5], [], []))]
def f_sl04Longest_rv : List ResultVar := [.tmp 2]
noncomputable def f_sl04Longest_L := Lq f_sl04Longest_X f_sl04Longest_LV f_sl04Longest_c f_sl04Longest_rv
theorem f_sl04Longest_ctx : CtxOK Try.prog f_sl04Longest_X := ctx_of tab mix trivial
noncomputable def f_sl04Longest_s3 (x0 : Int) (x1 : (List Int)) (x2 : (List Int)) : AS := ⟨[(0, .a (.sl 0)), (3, .a (.sl 1)), (4, .a (.v (.int .i64 x0)))], [(0, some ⟨false, .arr (.one (.i .i64)) x1⟩), (1, some ⟨true, .arr (.one (.i .i64)) x2⟩)], 2⟩
noncomputable def f_sl04Longest_s7 (x0 : Int) (x1 : Int) (x2 : (List Int)) (x3 : (List Int)) : AS := ⟨[(0, .a (.sl 0)), (3, .a (.sl 1)), (4, .a (.v (.int .i64 x0))), (5, .a (.v (.int .i64 x1)))], [(0, some ⟨false, .arr (.one (.i .i64)) x2⟩), (1, some ⟨true, .arr (.one (.i .i64)) x3⟩)], 2⟩
noncomputable def l_sl04Longest (r : (List Int)) : List A := [.lst (.one (.i .i64)) r]
theorem f_sl04Longest_step7 (x0 : Int) (x1 : Int) (x2 : (List Int)) (x3 : (List Int)) (r : List A) (h : (cond (decide (x1 > 0)) (cond (inB (IntKind.wrap .i64 (x1 - 1)) (List.length x3)) (cond (inB (List.getD x3 (Int.toNat (IntKind.wrap .i64 (x1 - 1))) 0) (List.length x2)) (cond (inB x0 (List.length x2)) (cond (decide ((List.getD x2 (Int.toNat (List.getD x3 (Int.toNat (IntKind.wrap .i64 (x1 - 1))) 0)) 0) < (List.getD x2 (Int.toNat x0) 0))) (cond (inB (IntKind.wrap .i64 (x1 - 1)) (List.length x3)) (cond (inB x1 (List.length x3)) (f_sl04Longest_L r 7 (f_sl04Longest_s7 x0 (IntKind.wrap .i64 (x1 - 1)) x2 (List.set x3 (Int.toNat x1) (List.getD x3 (Int.toNat (IntKind.wrap .i64 (x1 - 1))) 0)))) none) none) (cond (inB x1 (List.length x3)) (f_sl04Longest_L r 3 (f_sl04Longest_s3 (IntKind.wrap .i64 (x0 + 1)) x2 (List.set x3 (Int.toNat x1) x0))) none)) none) none) none) (cond (inB x1 (List.length x3)) (f_sl04Longest_L r 3 (f_sl04Longest_s3 (IntKind.wrap .i64 (x0 + 1)) x2 (List.set x3 (Int.toNat x1) x0))) none)) = some r) : f_sl04Longest_L r 7 (f_sl04Longest_s7 x0 x1 x2 x3) = some r :=
  step_of' h (by kernel_rfl)
noncomputable def f_sl04Longest_n7 (x0 : Int) (x1 : Int) (x2 : (List Int)) (x3 : (List Int)) : Option ((Int × Int × (List Int) × (List Int)) ⊕ ((Int × (List Int) × (List Int)) ⊕ (List Int))) := (cond (decide (x1 > 0)) (cond (inB (IntKind.wrap .i64 (x1 - 1)) (List.length x3)) (cond (inB (List.getD x3 (Int.toNat (IntKind.wrap .i64 (x1 - 1))) 0) (List.length x2)) (cond (inB x0 (List.length x2)) (cond (decide ((List.getD x2 (Int.toNat (List.getD x3 (Int.toNat (IntKind.wrap .i64 (x1 - 1))) 0)) 0) < (List.getD x2 (Int.toNat x0) 0))) (cond (inB (IntKind.wrap .i64 (x1 - 1)) (List.length x3)) (cond (inB x1 (List.length x3)) (some (Sum.inl (x0, (IntKind.wrap .i64 (x1 - 1)), x2, (List.set x3 (Int.toNat x1) (List.getD x3 (Int.toNat (IntKind.wrap .i64 (x1 - 1))) 0))))) none) none) (cond (inB x1 (List.length x3)) (some (Sum.inr (Sum.inl ((IntKind.wrap .i64 (x0 + 1)), x2, (List.set x3 (Int.toNat x1) x0))))) none)) none) none) none) (cond (inB x1 (List.length x3)) (some (Sum.inr (Sum.inl ((IntKind.wrap .i64 (x0 + 1)), x2, (List.set x3 (Int.toNat x1) x0))))) none))
noncomputable def f_sl04Longest_run7 (x : (Int × Int × (List Int) × (List Int))) : Option ((Int × (List Int) × (List Int)) ⊕ (List Int)) := iter (fun x => f_sl04Longest_n7 x.1 x.2.1 x.2.2.1 x.2.2.2) FU x
noncomputable def f_sl04Longest_G7 (r : List A) (x : (Int × Int × (List Int) × (List Int))) : Prop := f_sl04Longest_L r 7 (f_sl04Longest_s7 x.1 x.2.1 x.2.2.1 x.2.2.2) = some r
theorem f_sl04Longest_step3 (x0 : Int) (x1 : (List Int)) (x2 : (List Int)) (r : List A) (h : (cond (decide (x0 < ((List.length x1 : Nat) : Int))) (cond (fits ((List.length (x2 : List Int) + List.length ([x0] : List Int)) * 8)) (f_sl04Longest_L r 7 (f_sl04Longest_s7 x0 ((List.length x2 : Nat) : Int) x1 (x2 ++ [x0]))) none) (some [.lst (.one (.i .i64)) x2])) = some r) : f_sl04Longest_L r 3 (f_sl04Longest_s3 x0 x1 x2) = some r :=
  step_of' h (by kernel_rfl)
noncomputable def f_sl04Longest_n3 (x0 : Int) (x1 : (List Int)) (x2 : (List Int)) : Option ((Int × (List Int) × (List Int)) ⊕ (List Int)) := (cond (decide (x0 < ((List.length x1 : Nat) : Int))) (cond (fits ((List.length (x2 : List Int) + List.length ([x0] : List Int)) * 8)) (f_sl04Longest_run7 (x0, ((List.length x2 : Nat) : Int), x1, (x2 ++ [x0]))) none) (some (Sum.inr x2)))
noncomputable def f_sl04Longest_run3 (x : (Int × (List Int) × (List Int))) : Option (List Int) := iter (fun x => f_sl04Longest_n3 x.1 x.2.1 x.2.2) FU x
noncomputable def f_sl04Longest_G3 (r : List A) (x : (Int × (List Int) × (List Int))) : Prop := f_sl04Longest_L r 3 (f_sl04Longest_s3 x.1 x.2.1 x.2.2) = some r
noncomputable def f_sl04Longest_S3 (r : List A) : (List Int) → Prop := fun v => r = l_sl04Longest v
noncomputable def f_sl04Longest_S7 (r : List A) : ((Int × (List Int) × (List Int)) ⊕ (List Int)) → Prop := goesOn (f_sl04Longest_G3 r) (f_sl04Longest_S3 r)
theorem f_sl04Longest_go7 (r : List A) : ∀ x, sem (f_sl04Longest_S7 r) (f_sl04Longest_run7 x) → f_sl04Longest_G7 r x :=
  fun x => iter_sound (step := fun x => f_sl04Longest_n7 x.1 x.2.1 x.2.2.1 x.2.2.2) (fun x h => by
    unfold f_sl04Longest_n7 at h
    exact f_sl04Longest_step7 x.1 x.2.1 x.2.2.1 x.2.2.2 r ((sem_cond h (fun h => (sem_cond h (fun h => (sem_cond h (fun h => (sem_cond h (fun h => (sem_cond h (fun h => (sem_cond h (fun h => (sem_cond h (fun h => sem_got h fun q => q) (fun h => sem_none h))) (fun h => sem_none h))) (fun h => (sem_cond h (fun h => sem_got h fun q => q) (fun h => sem_none h))))) (fun h => sem_none h))) (fun h => sem_none h))) (fun h => sem_none h))) (fun h => (sem_cond h (fun h => sem_got h fun q => q) (fun h => sem_none h)))))) FU x
theorem f_sl04Longest_go3 (r : List A) : ∀ x, sem (f_sl04Longest_S3 r) (f_sl04Longest_run3 x) → f_sl04Longest_G3 r x :=
  fun x => iter_sound (step := fun x => f_sl04Longest_n3 x.1 x.2.1 x.2.2) (fun x h => by
    unfold f_sl04Longest_n3 at h
    exact f_sl04Longest_step3 x.1 x.2.1 x.2.2 r ((sem_cond h (fun h => (sem_cond h (fun h => f_sl04Longest_go7 r _ h) (fun h => sem_none h))) (fun h => sem_got h fun q => some_eq q)))) FU x
noncomputable def s_sl04Longest (a0 : (List Int)) : Option (List Int) := (f_sl04Longest_run3 (0, a0, []))
theorem f_sl04Longest_top (a0 : (List Int)) (r : List A) : Tq f_sl04Longest_X f_sl04Longest_LV f_sl04Longest_c f_sl04Longest_rv r [.lst (.one (.i .i64)) a0] = (f_sl04Longest_L r 3 (f_sl04Longest_s3 0 a0 [])) := by kernel_rfl
theorem s_sl04Longest_ok (a0 : (List Int)) (v : (List Int)) (h : s_sl04Longest a0 = some v) : (f_sl04Longest_L (l_sl04Longest v) 3 (f_sl04Longest_s3 0 a0 [])) = some (l_sl04Longest v) := by
  replace h : sem (fun w => l_sl04Longest v = l_sl04Longest w) (s_sl04Longest a0) := ⟨v, h, rfl⟩
  unfold s_sl04Longest at h
  exact f_sl04Longest_go3 (l_sl04Longest v) _ h
noncomputable def c_sl04Longest : List A → ACall
  | [.lst (.one (.i .i64)) a0] => ⟨(List Int), s_sl04Longest a0, fun r => .one (.lst (.one (.i .i64)) r)⟩
  | _ => ACall.fail
theorem f_sl04Longest_sound : Sound Try.prog 34 c_sl04Longest := by
  refine good f_sl04Longest_ctx f_sl04Longest_LV f_sl04Longest_c f_sl04Longest_rv 1 Try.func34 fun rs => ?_
  unfold c_sl04Longest
  split
  · rename_i a0; intro v h; exact ⟨rfl, l_sl04Longest v, rfl, (f_sl04Longest_top a0 _).trans (s_sl04Longest_ok a0 v h)⟩
  · intro v h; cases h
end Go.RR
