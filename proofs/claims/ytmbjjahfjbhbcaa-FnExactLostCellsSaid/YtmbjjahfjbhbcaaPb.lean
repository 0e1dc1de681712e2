/- The functions of PartnerOf, with loops. -/
import Derived.Test.YtmbjjahfjbhbcaaPa
import Derived.Test.YtmbjjahfjbhbcaaRp
set_option linter.unusedVariables false
set_option linter.unusedSimpArgs false
set_option maxRecDepth 100000
namespace Go.RR
open Go Go.Proofs

/-! ### function 51: loop.example/g01322/laws.toByteA144 -/
noncomputable def f51_c : Code := match Try.f51.body with | some c => c | none => .skip
noncomputable def f51_X : Ctx := ⟨TT, phiOf [], noPsi⟩
def f51_LV : List (Nat × Keep) := [(3, ([1, 2, 3, 4], [], []))]
def f51_rv : List ResultVar := [.cell 2 23]
noncomputable def f51_L (r : List A) : Nat → AS → Option (List A) := L f51_X (cnOf f51_LV) f51_c (K0 TT f51_rv) r
theorem f51_ctx : CtxOK Try.prog f51_X := ctx_of tab mix trivial
noncomputable def f51_s3 (x0 : Int) (x1 : (Nat → Int)) (x2 : (Nat → Int)) (x3 : (Nat → Int)) : AS := ⟨[(1, .a (.ptr 0 [] (0))), (2, .a (.ptr 1 [] (0))), (3, .a (.ptr 2 [] (0))), (4, .a (.v (.int .i64 x0)))], [(0, some ⟨true, .box (.fa 144 .u8 x1)⟩), (1, some ⟨true, .box (.fa 144 .u8 x2)⟩), (2, some ⟨true, .box (.fa 144 .u8 x3)⟩)], 3⟩
theorem f51_step3 (x0 : Int) (x1 : (Nat → Int)) (x2 : (Nat → Int)) (x3 : (Nat → Int)) (r : List A) (h : (cond (decide (x0 < 144)) (cond (inB x0 144) (cond (inB x0 144) (f51_L r 3 (f51_s3 (IntKind.wrap .i64 (x0 + 1)) x1 x2 (upd x3 (Int.toNat x0) (x1 (Int.toNat x0))))) none) none) (some [.fa 144 .u8 x3])) = some r) : f51_L r 3 (f51_s3 x0 x1 x2 x3) = some r :=
  step_of' h (by kernel_rfl)
noncomputable def s51 (a0 : (Nat → Int)) : (Nat → Int) := fun j => cond (Nat.blt j 144) (a0 j) 0
theorem f51_top (a0 : (Nat → Int)) (r : List A) : ev f51_X (lpc (cnOf f51_LV) (f51_L r)) f51_c (K0 TT f51_rv) (enter [.fa 144 .u8 a0]) = (f51_L r 3 (f51_s3 0 a0 zF zF)) := by kernel_rfl
noncomputable def l51 (r : (Nat → Int)) : List A := [.fa 144 .u8 r]
theorem f51_loop (a0 z : Nat → Int) : ∀ (k i : Nat) (g : Nat → Int), i + k = 144 → f51_L (l51 (fun j => cond (Nat.blt j 144 && !Nat.blt j i) (a0 j) (g j))) 3 (f51_s3 i a0 z g) = some (l51 (fun j => cond (Nat.blt j 144 && !Nat.blt j i) (a0 j) (g j)))
  | 0, i, g, h => by
    obtain rfl : i = 144 := h
    apply f51_step3
    rw [show decide (((144 : Nat) : Int) < 144) = false from rfl, cond_false]
    have : (fun j => cond (Nat.blt j 144 && !Nat.blt j 144) (a0 j) (g j)) = g := by
      funext j; cases Nat.blt j 144 <;> rfl
    rw [this]; rfl
  | k + 1, i, g, h => by
    have hi : i < 144 := by omega
    apply f51_step3
    rw [show decide ((i : Int) < 144) = true from lt_true (n := 144) hi, inB_nat hi, succ64 (by omega), toNat_nat]
    simp only [cond_true]
    have ih := f51_loop a0 z k (i + 1) (upd g i (a0 i)) (by omega)
    have e : (fun j => cond (Nat.blt j 144 && !Nat.blt j (i + 1)) (a0 j) (upd g i (a0 i) j)) = fun j => cond (Nat.blt j 144 && !Nat.blt j i) (a0 j) (g j) := by
      funext j
      unfold upd
      by_cases hj : j = i
      · subst hj
        have h1 : Nat.blt j 144 = true := blt_true hi
        have h2 : Nat.blt j j = false := blt_false (Nat.le_refl j)
        have h3 : Nat.blt j (j + 1) = true := blt_true (Nat.lt_succ_self j)
        simp [h1, h2, h3]
      · have h2 : Nat.blt j (i + 1) = Nat.blt j i := by
          by_cases h : j < i
          · have a : Nat.blt j i = true := blt_true h
            have b : Nat.blt j (i + 1) = true := blt_true (by omega)
            rw [a, b]
          · have a : Nat.blt j i = false := blt_false (by omega)
            have b : Nat.blt j (i + 1) = false := blt_false (by omega)
            rw [a, b]
        have h3 : Nat.beq j i = false := beqF hj
        rw [h2, h3, cond_false]
    rw [e] at ih
    exact ih
theorem s51_ok (a0 : (Nat → Int)) : (f51_L (l51 (s51 a0)) 3 (f51_s3 0 a0 zF zF)) = some (l51 (s51 a0)) := by
  have h := f51_loop a0 zF 144 0 zF rfl
  have e : (fun j => cond (Nat.blt j 144 && !Nat.blt j 0) (a0 j) (zF j)) = s51 a0 := by
    funext j
    have : Nat.blt j 0 = false := blt_false (Nat.zero_le j)
    rw [this]; unfold s51 zF; simp
  rw [e] at h
  exact h
noncomputable def c51 : List A → ACall
  | [.fa 144 .u8 a0] => ⟨(Nat → Int), some (s51 a0), fun r => .one (.fa 144 .u8 r)⟩
  | _ => ACall.fail
theorem f51_sound : Sound Try.prog 51 c51 := by
  refine sound_good f51_ctx f51_LV 1 Try.func51 (c := f51_c) (by kernel_rfl) (rv := f51_rv) (by kernel_rfl) (by kernel_rfl) (by kernel_rfl) (by kernel_rfl) fun rs => ?_
  unfold c51
  split
  · rename_i a0; intro v h; cases h; exact ⟨rfl, l51 (s51 a0), rfl, (f51_top a0 _).trans (s51_ok a0)⟩
  · intro v h; cases h
noncomputable def p47 (w h : Int) (f : Nat → Int) (j : Nat) : Bool := !(decide (f j ≥ 16)) && (s81 w h f j || !(f j != 0))

/-! ### function 47: loop.example/g01322/spec.l01Ok -/
noncomputable def f47_c : Code := match Try.f47.body with | some c => c | none => .skip
noncomputable def f47_X : Ctx := ⟨TT, phiOf [(57, c57), (81, c81)], noPsi⟩
def f47_LV : List (Nat × Keep) := [(4, ([0, 3], [], []))]
def f47_rv : List ResultVar := [.tmp 2]
noncomputable def f47_L (r : List A) : Nat → AS → Option (List A) := L f47_X (cnOf f47_LV) f47_c (K0 TT f47_rv) r
theorem f47_ctx : CtxOK Try.prog f47_X := ctx_of tab mix ⟨⟨Try.call57, f57_sound⟩, ⟨Try.call81, f81_sound⟩, trivial⟩
noncomputable def f47_s4 (x0 : Int) (x1 : Int) (x2 : Int) (x3 : (Nat → Int)) : AS := ⟨[(0, .a (.ptr 0 [] (0))), (3, .a (.v (.int .i64 x0)))], [(0, some ⟨false, .box (.rc [.v (.int .i8 x1), .v (.int .i8 x2), .fa 144 .u8 x3])⟩)], 1⟩
theorem f47_step4 (x0 : Int) (x1 : Int) (x2 : Int) (x3 : (Nat → Int)) (r : List A) (h : (cond (decide (x0 < 144)) (cond (inB x0 144) (cond (decide ((x3 (Int.toNat x0)) ≥ 16)) (some [.v (.bool false)]) (cond (!(s81 x1 x2 x3 x0)) (cond (inB x0 144) (cond ((x3 (Int.toNat x0)) != 0) (some [.v (.bool false)]) (f47_L r 4 (f47_s4 (IntKind.wrap .i64 (x0 + 1)) x1 x2 x3))) none) (f47_L r 4 (f47_s4 (IntKind.wrap .i64 (x0 + 1)) x1 x2 x3)))) none) (some [.v (.bool true)])) = some r) : f47_L r 4 (f47_s4 x0 x1 x2 x3) = some r :=
  step_of' h (by kernel_rfl)
noncomputable def s47 (a0 : Int) (a1 : Int) (a2 : (Nat → Int)) : Bool := s57 (IntKind.wrap .i64 a0) 1 12 && (s57 (IntKind.wrap .i64 a1) 1 12 && allN (p47 a0 a1 a2) 0 144)
theorem f47_top (a0 : Int) (a1 : Int) (a2 : (Nat → Int)) (r : List A) : ev f47_X (lpc (cnOf f47_LV) (f47_L r)) f47_c (K0 TT f47_rv) (enter [.ref (.rc [.v (.int .i8 a0), .v (.int .i8 a1), .fa 144 .u8 a2])]) = (cond (!(s57 (IntKind.wrap .i64 a0) 1 12)) (some [.v (.bool false)]) (cond (!(s57 (IntKind.wrap .i64 a1) 1 12)) (some [.v (.bool false)]) (f47_L r 4 (f47_s4 0 a0 a1 a2)))) := by kernel_rfl
noncomputable def l47 (r : Bool) : List A := [.v (.bool r)]
theorem f47_loop (w h : Int) (f : Nat → Int) : ∀ (k i : Nat), i + k = 144 → f47_L (l47 (allN (p47 w h f) i k)) 4 (f47_s4 i w h f) = some (l47 (allN (p47 w h f) i k))
  | 0, i, hi => by
    obtain rfl : i = 144 := hi
    apply f47_step4
    rw [show decide (((144 : Nat) : Int) < 144) = false from rfl, cond_false]
    rfl
  | k + 1, i, hik => by
    have hi : i < 144 := by omega
    have ih := f47_loop w h f k (i + 1) (by omega)
    apply f47_step4
    rw [show decide ((i : Int) < 144) = true from lt_true (n := 144) hi, inB_nat hi, succ64 (by omega), toNat_nat]
    simp only [cond_true, allN, p47]
    cases h1 : decide (f i ≥ 16) <;> cases h2 : s81 w h f i <;> cases h3 : (f i != 0) <;> first | rfl | exact ih
theorem s47_ok (a0 : Int) (a1 : Int) (a2 : (Nat → Int)) : (cond (!(s57 (IntKind.wrap .i64 a0) 1 12)) (some [.v (.bool false)]) (cond (!(s57 (IntKind.wrap .i64 a1) 1 12)) (some [.v (.bool false)]) (f47_L (l47 (s47 a0 a1 a2)) 4 (f47_s4 0 a0 a1 a2)))) = some (l47 (s47 a0 a1 a2)) := by
  have h := f47_loop a0 a1 a2 144 0 rfl
  unfold s47
  cases s57 (IntKind.wrap .i64 a0) 1 12 <;> cases s57 (IntKind.wrap .i64 a1) 1 12 <;> first | rfl | exact h
noncomputable def c47 : List A → ACall
  | [.ref (.rc [.v (.int .i8 a0), .v (.int .i8 a1), .fa 144 .u8 a2])] => ⟨Bool, some (s47 a0 a1 a2), fun r => .one (.v (.bool r))⟩
  | _ => ACall.fail
theorem f47_sound : Sound Try.prog 47 c47 := by
  refine sound_good f47_ctx f47_LV 1 Try.func47 (c := f47_c) (by kernel_rfl) (rv := f47_rv) (by kernel_rfl) (by kernel_rfl) (by kernel_rfl) (by kernel_rfl) fun rs => ?_
  unfold c47
  split
  · rename_i a0 a1 a2; intro v h; cases h; exact ⟨rfl, l47 (s47 a0 a1 a2), rfl, (f47_top a0 a1 a2 _).trans (s47_ok a0 a1 a2)⟩
  · intro v h; cases h
noncomputable def p53 (w h : Int) (f : Nat → Int) (j : Nat) : Bool := (s83 w h f (Int.tmod j 12) (IntKind.wrap .i64 (Int.tdiv j 12)) || !(f j != 0)) && !(decide (f j ≥ 16))

/-! ### function 53: loop.example/g01322/impl.ValidPicture -/
noncomputable def f53_c : Code := match Try.f53.body with | some c => c | none => .skip
noncomputable def f53_X : Ctx := ⟨TT, phiOf [(82, c82), (83, c83)], noPsi⟩
def f53_LV : List (Nat × Keep) := [(4, ([1, 14, 15], [], []))]
def f53_rv : List ResultVar := [.tmp 2]
noncomputable def f53_L (r : List A) : Nat → AS → Option (List A) := L f53_X (cnOf f53_LV) f53_c (K0 TT f53_rv) r
theorem f53_ctx : CtxOK Try.prog f53_X := ctx_of tab mix ⟨⟨Try.call82, f82_sound⟩, ⟨Try.call83, f83_sound⟩, trivial⟩
noncomputable def f53_s4 (x0 : (Nat → Int)) (x1 : Int) (x2 : Int) (x3 : Int) (x4 : (Nat → Int)) : AS := ⟨[(1, .a (.ptr 0 [] (0))), (14, .a (.fa 144 .u8 x0)), (15, .a (.v (.int .i64 x1)))], [(0, some ⟨true, .box (.rc [.v (.int .i8 x2), .v (.int .i8 x3), .fa 144 .u8 x4])⟩)], 1⟩
theorem f53_step4 (x0 : (Nat → Int)) (x1 : Int) (x2 : Int) (x3 : Int) (x4 : (Nat → Int)) (r : List A) (h : (cond (decide (x1 < 144)) (cond (inB x1 144) (cond (!(s83 x2 x3 x4 (Int.tmod x1 12) (IntKind.wrap .i64 (Int.tdiv x1 12)))) (cond ((x0 (Int.toNat x1)) != 0) (some [.v (.bool false)]) (cond (decide ((x0 (Int.toNat x1)) ≥ 16)) (some [.v (.bool false)]) (f53_L r 4 (f53_s4 x0 (IntKind.wrap .i64 (x1 + 1)) x2 x3 x4)))) (cond (decide ((x0 (Int.toNat x1)) ≥ 16)) (some [.v (.bool false)]) (f53_L r 4 (f53_s4 x0 (IntKind.wrap .i64 (x1 + 1)) x2 x3 x4)))) none) (some [.v (.bool true)])) = some r) : f53_L r 4 (f53_s4 x0 x1 x2 x3 x4) = some r :=
  step_of' h (by kernel_rfl)
noncomputable def s53 (a0 : Int) (a1 : Int) (a2 : (Nat → Int)) : Bool := s82 (IntKind.wrap .i64 a0) (IntKind.wrap .i64 a1) && allN (p53 a0 a1 a2) 0 144
theorem f53_top (a0 : Int) (a1 : Int) (a2 : (Nat → Int)) (r : List A) : ev f53_X (lpc (cnOf f53_LV) (f53_L r)) f53_c (K0 TT f53_rv) (enter [.rc [.v (.int .i8 a0), .v (.int .i8 a1), .fa 144 .u8 a2]]) = (cond (!(s82 (IntKind.wrap .i64 a0) (IntKind.wrap .i64 a1))) (some [.v (.bool false)]) (f53_L r 4 (f53_s4 a2 0 a0 a1 a2))) := by kernel_rfl
noncomputable def l53 (r : Bool) : List A := [.v (.bool r)]
theorem f53_loop (w h : Int) (f : Nat → Int) : ∀ (k i : Nat), i + k = 144 → f53_L (l53 (allN (p53 w h f) i k)) 4 (f53_s4 f i w h f) = some (l53 (allN (p53 w h f) i k))
  | 0, i, hi => by
    obtain rfl : i = 144 := hi
    apply f53_step4
    rw [show decide (((144 : Nat) : Int) < 144) = false from rfl, cond_false]
    rfl
  | k + 1, i, hik => by
    have hi : i < 144 := by omega
    have ih := f53_loop w h f k (i + 1) (by omega)
    apply f53_step4
    rw [show decide ((i : Int) < 144) = true from lt_true (n := 144) hi, inB_nat hi, succ64 (by omega), toNat_nat]
    simp only [cond_true, allN, p53]
    cases h1 : decide (f i ≥ 16) <;> cases h2 : s83 w h f (Int.tmod i 12) (IntKind.wrap .i64 (Int.tdiv i 12)) <;> cases h3 : (f i != 0) <;> first | rfl | exact ih
theorem s53_ok (a0 : Int) (a1 : Int) (a2 : (Nat → Int)) : (cond (!(s82 (IntKind.wrap .i64 a0) (IntKind.wrap .i64 a1))) (some [.v (.bool false)]) (f53_L (l53 (s53 a0 a1 a2)) 4 (f53_s4 a2 0 a0 a1 a2))) = some (l53 (s53 a0 a1 a2)) := by
  have h := f53_loop a0 a1 a2 144 0 rfl
  unfold s53
  cases s82 (IntKind.wrap .i64 a0) (IntKind.wrap .i64 a1) <;> first | rfl | exact h
noncomputable def c53 : List A → ACall
  | [.rc [.v (.int .i8 a0), .v (.int .i8 a1), .fa 144 .u8 a2]] => ⟨Bool, some (s53 a0 a1 a2), fun r => .one (.v (.bool r))⟩
  | _ => ACall.fail
theorem f53_sound : Sound Try.prog 53 c53 := by
  refine sound_good f53_ctx f53_LV 1 Try.func53 (c := f53_c) (by kernel_rfl) (rv := f53_rv) (by kernel_rfl) (by kernel_rfl) (by kernel_rfl) (by kernel_rfl) fun rs => ?_
  unfold c53
  split
  · rename_i a0 a1 a2; intro v h; cases h; exact ⟨rfl, l53 (s53 a0 a1 a2), rfl, (f53_top a0 a1 a2 _).trans (s53_ok a0 a1 a2)⟩
  · intro v h; cases h

/-! ### function 16: loop.example/g01322/laws.toPicture -/
noncomputable def f16_c : Code := match Try.f16.body with | some c => c | none => .skip
noncomputable def f16_X : Ctx := ⟨TT, phiOf [(51, c51)], noPsi⟩
def f16_LV : List (Nat × Keep) := []
def f16_rv : List ResultVar := [.cell 2 28]
noncomputable def f16_L (r : List A) : Nat → AS → Option (List A) := L f16_X (cnOf f16_LV) f16_c (K0 TT f16_rv) r
theorem f16_ctx : CtxOK Try.prog f16_X := ctx_of tab mix ⟨⟨Try.call51, f51_sound⟩, trivial⟩
noncomputable def s16 (a0 : Int) (a1 : Int) (a2 : (Nat → Int)) : (Int × Int × (Nat → Int)) := (a0, a1, (s51 a2))
theorem f16_top (a0 : Int) (a1 : Int) (a2 : (Nat → Int)) (r : List A) : ev f16_X (lpc (cnOf f16_LV) (f16_L r)) f16_c (K0 TT f16_rv) (enter [.rc [.v (.int .i8 a0), .v (.int .i8 a1), .fa 144 .u8 a2]]) = (some [.rc [.v (.int .i8 a0), .v (.int .i8 a1), .fa 144 .u8 (s51 a2)]]) := by kernel_rfl
noncomputable def l16 (r : (Int × Int × (Nat → Int))) : List A := [.rc [.v (.int .i8 r.1), .v (.int .i8 r.2.1), .fa 144 .u8 r.2.2]]
theorem s16_ok (a0 : Int) (a1 : Int) (a2 : (Nat → Int)) : (some [.rc [.v (.int .i8 a0), .v (.int .i8 a1), .fa 144 .u8 (s51 a2)]]) = some (l16 (s16 a0 a1 a2)) := by
  unfold s16
  exact rfl
noncomputable def c16 : List A → ACall
  | [.rc [.v (.int .i8 a0), .v (.int .i8 a1), .fa 144 .u8 a2]] => ⟨(Int × Int × (Nat → Int)), some (s16 a0 a1 a2), fun r => .one (.rc [.v (.int .i8 r.1), .v (.int .i8 r.2.1), .fa 144 .u8 r.2.2])⟩
  | _ => ACall.fail
theorem f16_sound : Sound Try.prog 16 c16 := by
  refine sound_good f16_ctx f16_LV 1 Try.func16 (c := f16_c) (by kernel_rfl) (rv := f16_rv) (by kernel_rfl) (by kernel_rfl) (by kernel_rfl) (by kernel_rfl) fun rs => ?_
  unfold c16
  split
  · rename_i a0 a1 a2; intro v h; cases h; exact ⟨rfl, l16 (s16 a0 a1 a2), rfl, (f16_top a0 a1 a2 _).trans (s16_ok a0 a1 a2)⟩
  · intro v h; cases h

/-! ### function 15: loop.example/g01322/spec.PartnerOf -/
noncomputable def f15_c : Code := match Try.f15.body with | some c => c | none => .skip
noncomputable def f15_X : Ctx := ⟨TT, phiOf [(47, c47), (48, c48), (49, c49), (50, c50)], noPsi⟩
def f15_LV : List (Nat × Keep) := []
def f15_rv : List ResultVar := [.tmp 6, .tmp 7]
noncomputable def f15_L (r : List A) : Nat → AS → Option (List A) := L f15_X (cnOf f15_LV) f15_c (K0 TT f15_rv) r
theorem f15_ctx : CtxOK Try.prog f15_X := ctx_of tab mix ⟨⟨Try.call47, f47_sound⟩, ⟨Try.call48, f48_sound⟩, ⟨Try.call49, f49_sound⟩, ⟨Try.call50, f50_sound⟩, trivial⟩
noncomputable def s15 (a0 : Int) (a1 : Int) (a2 : (Nat → Int)) (a3 : Int) (a4 : Int) : (Int × Int) := (cond (!(s47 a0 a1 a2)) (0, 1) (cond (!(s48 a3)) (0, 2) (cond (!(s49 a0 a1 a2 a4)) (0, 2) ((s50 a0 a1 a2 a3 a4), 0))))
theorem f15_top (a0 : Int) (a1 : Int) (a2 : (Nat → Int)) (a3 : Int) (a4 : Int) (r : List A) : ev f15_X (lpc (cnOf f15_LV) (f15_L r)) f15_c (K0 TT f15_rv) (enter [.rc [.v (.int .i8 a0), .v (.int .i8 a1), .fa 144 .u8 a2], .v (.int .i64 a3), .v (.int .i64 a4)]) = (cond (!(s47 a0 a1 a2)) (some [.v (.int .i64 0), .v (.int .i64 1)]) (cond (!(s48 a3)) (some [.v (.int .i64 0), .v (.int .i64 2)]) (cond (!(s49 a0 a1 a2 a4)) (some [.v (.int .i64 0), .v (.int .i64 2)]) (some [.v (.int .i64 (s50 a0 a1 a2 a3 a4)), .v (.int .i64 0)])))) := by kernel_rfl
noncomputable def l15 (r : (Int × Int)) : List A := [.v (.int .i64 r.1), .v (.int .i64 r.2)]
theorem s15_ok (a0 : Int) (a1 : Int) (a2 : (Nat → Int)) (a3 : Int) (a4 : Int) : (cond (!(s47 a0 a1 a2)) (some [.v (.int .i64 0), .v (.int .i64 1)]) (cond (!(s48 a3)) (some [.v (.int .i64 0), .v (.int .i64 2)]) (cond (!(s49 a0 a1 a2 a4)) (some [.v (.int .i64 0), .v (.int .i64 2)]) (some [.v (.int .i64 (s50 a0 a1 a2 a3 a4)), .v (.int .i64 0)])))) = some (l15 (s15 a0 a1 a2 a3 a4)) := by
  unfold s15
  exact (cond_app (fun x => some (l15 x)) rfl (cond_app (fun x => some (l15 x)) rfl (cond_app (fun x => some (l15 x)) rfl rfl)))
noncomputable def c15 : List A → ACall
  | [.rc [.v (.int .i8 a0), .v (.int .i8 a1), .fa 144 .u8 a2], .v (.int .i64 a3), .v (.int .i64 a4)] => ⟨(Int × Int), some (s15 a0 a1 a2 a3 a4), fun r => .tup [.v (.int .i64 r.1), .v (.int .i64 r.2)]⟩
  | _ => ACall.fail
theorem f15_sound : Sound Try.prog 15 c15 := by
  refine sound_good f15_ctx f15_LV 3 Try.func15 (c := f15_c) (by kernel_rfl) (rv := f15_rv) (by kernel_rfl) (by kernel_rfl) (by kernel_rfl) (by kernel_rfl) fun rs => ?_
  unfold c15
  split
  · rename_i a0 a1 a2 a3 a4; intro v h; cases h; exact ⟨rfl, l15 (s15 a0 a1 a2 a3 a4), rfl, (f15_top a0 a1 a2 a3 a4 _).trans (s15_ok a0 a1 a2 a3 a4)⟩
  · intro v h; cases h

/-! ### function 17: loop.example/g01322/impl.PartnerOf -/
noncomputable def f17_c : Code := match Try.f17.body with | some c => c | none => .skip
noncomputable def f17_X : Ctx := ⟨TT, phiOf [(52, c52), (53, c53), (54, c54), (55, c55), (56, c56)], noPsi⟩
def f17_LV : List (Nat × Keep) := []
def f17_rv : List ResultVar := [.tmp 6, .tmp 7]
noncomputable def f17_L (r : List A) : Nat → AS → Option (List A) := L f17_X (cnOf f17_LV) f17_c (K0 TT f17_rv) r
theorem f17_ctx : CtxOK Try.prog f17_X := ctx_of tab mix ⟨⟨Try.call52, f52_sound⟩, ⟨Try.call53, f53_sound⟩, ⟨Try.call54, f54_sound⟩, ⟨Try.call55, f55_sound⟩, ⟨Try.call56, f56_sound⟩, trivial⟩
noncomputable def s17 (a0 : Int) (a1 : Int) (a2 : (Nat → Int)) (a3 : Int) (a4 : Int) : (Int × Int) := (cond (s54 a3) (cond ((s52 (s53 a0 a1 a2) (s55 a0 a1 a2 a4)) != 0) (0, (s52 (s53 a0 a1 a2) (s55 a0 a1 a2 a4))) ((s56 a0 a1 a2 a3 a4), 0)) (cond ((s52 (s53 a0 a1 a2) false) != 0) (0, (s52 (s53 a0 a1 a2) false)) ((s56 a0 a1 a2 a3 a4), 0)))
theorem f17_top (a0 : Int) (a1 : Int) (a2 : (Nat → Int)) (a3 : Int) (a4 : Int) (r : List A) : ev f17_X (lpc (cnOf f17_LV) (f17_L r)) f17_c (K0 TT f17_rv) (enter [.rc [.v (.int .i8 a0), .v (.int .i8 a1), .fa 144 .u8 a2], .v (.int .i64 a3), .v (.int .i64 a4)]) = (cond (s54 a3) (cond ((s52 (s53 a0 a1 a2) (s55 a0 a1 a2 a4)) != 0) (some [.v (.int .i64 0), .v (.int .i64 (s52 (s53 a0 a1 a2) (s55 a0 a1 a2 a4)))]) (some [.v (.int .i64 (s56 a0 a1 a2 a3 a4)), .v (.int .i64 0)])) (cond ((s52 (s53 a0 a1 a2) false) != 0) (some [.v (.int .i64 0), .v (.int .i64 (s52 (s53 a0 a1 a2) false))]) (some [.v (.int .i64 (s56 a0 a1 a2 a3 a4)), .v (.int .i64 0)]))) := by kernel_rfl
noncomputable def l17 (r : (Int × Int)) : List A := [.v (.int .i64 r.1), .v (.int .i64 r.2)]
theorem s17_ok (a0 : Int) (a1 : Int) (a2 : (Nat → Int)) (a3 : Int) (a4 : Int) : (cond (s54 a3) (cond ((s52 (s53 a0 a1 a2) (s55 a0 a1 a2 a4)) != 0) (some [.v (.int .i64 0), .v (.int .i64 (s52 (s53 a0 a1 a2) (s55 a0 a1 a2 a4)))]) (some [.v (.int .i64 (s56 a0 a1 a2 a3 a4)), .v (.int .i64 0)])) (cond ((s52 (s53 a0 a1 a2) false) != 0) (some [.v (.int .i64 0), .v (.int .i64 (s52 (s53 a0 a1 a2) false))]) (some [.v (.int .i64 (s56 a0 a1 a2 a3 a4)), .v (.int .i64 0)]))) = some (l17 (s17 a0 a1 a2 a3 a4)) := by
  unfold s17
  exact (cond_app (fun x => some (l17 x)) (cond_app (fun x => some (l17 x)) rfl rfl) (cond_app (fun x => some (l17 x)) rfl rfl))
noncomputable def c17 : List A → ACall
  | [.rc [.v (.int .i8 a0), .v (.int .i8 a1), .fa 144 .u8 a2], .v (.int .i64 a3), .v (.int .i64 a4)] => ⟨(Int × Int), some (s17 a0 a1 a2 a3 a4), fun r => .tup [.v (.int .i64 r.1), .v (.int .i64 r.2)]⟩
  | _ => ACall.fail
theorem f17_sound : Sound Try.prog 17 c17 := by
  refine sound_good f17_ctx f17_LV 3 Try.func17 (c := f17_c) (by kernel_rfl) (rv := f17_rv) (by kernel_rfl) (by kernel_rfl) (by kernel_rfl) (by kernel_rfl) fun rs => ?_
  unfold c17
  split
  · rename_i a0 a1 a2 a3 a4; intro v h; cases h; exact ⟨rfl, l17 (s17 a0 a1 a2 a3 a4), rfl, (f17_top a0 a1 a2 a3 a4 _).trans (s17_ok a0 a1 a2 a3 a4)⟩
  · intro v h; cases h

/-! ### function 3: loop.example/g01322/laws.FnExactPartnerOf -/
noncomputable def f3_c : Code := match Try.f3.body with | some c => c | none => .skip
noncomputable def f3_X : Ctx := ⟨TT, phiOf [(15, c15), (16, c16), (17, c17)], noPsi⟩
def f3_LV : List (Nat × Keep) := []
def f3_rv : List ResultVar := [.tmp 6]
noncomputable def f3_L (r : List A) : Nat → AS → Option (List A) := L f3_X (cnOf f3_LV) f3_c (K0 TT f3_rv) r
theorem f3_ctx : CtxOK Try.prog f3_X := ctx_of tab mix ⟨⟨Try.call15, f15_sound⟩, ⟨Try.call16, f16_sound⟩, ⟨Try.call17, f17_sound⟩, trivial⟩
noncomputable def s3 (a0 : Int) (a1 : Int) (a2 : (Nat → Int)) (a3 : Int) (a4 : Int) : Bool := (cond ((s17 (s16 a0 a1 a2).1 (s16 a0 a1 a2).2.1 (s16 a0 a1 a2).2.2 a3 a4).1 != (s15 (s16 a0 a1 a2).1 (s16 a0 a1 a2).2.1 (s16 a0 a1 a2).2.2 a3 a4).1) false (cond ((s17 (s16 a0 a1 a2).1 (s16 a0 a1 a2).2.1 (s16 a0 a1 a2).2.2 a3 a4).2 != (s15 (s16 a0 a1 a2).1 (s16 a0 a1 a2).2.1 (s16 a0 a1 a2).2.2 a3 a4).2) false true))
theorem f3_top (a0 : Int) (a1 : Int) (a2 : (Nat → Int)) (a3 : Int) (a4 : Int) (r : List A) : ev f3_X (lpc (cnOf f3_LV) (f3_L r)) f3_c (K0 TT f3_rv) (enter [.rc [.v (.int .i8 a0), .v (.int .i8 a1), .fa 144 .u8 a2], .v (.int .i64 a3), .v (.int .i64 a4)]) = (cond ((s17 (s16 a0 a1 a2).1 (s16 a0 a1 a2).2.1 (s16 a0 a1 a2).2.2 a3 a4).1 != (s15 (s16 a0 a1 a2).1 (s16 a0 a1 a2).2.1 (s16 a0 a1 a2).2.2 a3 a4).1) (some [.v (.bool false)]) (cond ((s17 (s16 a0 a1 a2).1 (s16 a0 a1 a2).2.1 (s16 a0 a1 a2).2.2 a3 a4).2 != (s15 (s16 a0 a1 a2).1 (s16 a0 a1 a2).2.1 (s16 a0 a1 a2).2.2 a3 a4).2) (some [.v (.bool false)]) (some [.v (.bool true)]))) := by kernel_rfl
noncomputable def l3 (r : Bool) : List A := [.v (.bool r)]
theorem s3_ok (a0 : Int) (a1 : Int) (a2 : (Nat → Int)) (a3 : Int) (a4 : Int) : (cond ((s17 (s16 a0 a1 a2).1 (s16 a0 a1 a2).2.1 (s16 a0 a1 a2).2.2 a3 a4).1 != (s15 (s16 a0 a1 a2).1 (s16 a0 a1 a2).2.1 (s16 a0 a1 a2).2.2 a3 a4).1) (some [.v (.bool false)]) (cond ((s17 (s16 a0 a1 a2).1 (s16 a0 a1 a2).2.1 (s16 a0 a1 a2).2.2 a3 a4).2 != (s15 (s16 a0 a1 a2).1 (s16 a0 a1 a2).2.1 (s16 a0 a1 a2).2.2 a3 a4).2) (some [.v (.bool false)]) (some [.v (.bool true)]))) = some (l3 (s3 a0 a1 a2 a3 a4)) := by
  unfold s3
  exact (cond_app (fun x => some (l3 x)) rfl (cond_app (fun x => some (l3 x)) rfl rfl))
noncomputable def c3 : List A → ACall
  | [.rc [.v (.int .i8 a0), .v (.int .i8 a1), .fa 144 .u8 a2], .v (.int .i64 a3), .v (.int .i64 a4)] => ⟨Bool, some (s3 a0 a1 a2 a3 a4), fun r => .one (.v (.bool r))⟩
  | _ => ACall.fail
theorem f3_sound : Sound Try.prog 3 c3 := by
  refine sound_good f3_ctx f3_LV 3 Try.func3 (c := f3_c) (by kernel_rfl) (rv := f3_rv) (by kernel_rfl) (by kernel_rfl) (by kernel_rfl) (by kernel_rfl) fun rs => ?_
  unfold c3
  split
  · rename_i a0 a1 a2 a3 a4; intro v h; cases h; exact ⟨rfl, l3 (s3 a0 a1 a2 a3 a4), rfl, (f3_top a0 a1 a2 a3 a4 _).trans (s3_ok a0 a1 a2 a3 a4)⟩
  · intro v h; cases h
end Go.RR
