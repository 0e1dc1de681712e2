/- The cells of a picture; pictures that are moved. -/
import Derived.Test.YtmbjjahfjbhbcaaPb
import Derived.Test.YtmbjjahfjbhbcaaRt
set_option linter.unusedVariables false
set_option linter.unusedSimpArgs false
set_option maxRecDepth 100000
namespace Go.RR
open Go Go.Proofs
noncomputable def isIn (w h : Int) (i : Nat) : Bool := s96 (Int.tmod i 12) (IntKind.wrap .i64 (Int.tdiv i 12)) w h
noncomputable def cellsOf (w h : Int) : List Nat := (List.range' 0 144).filter (isIn w h)
theorem cellsOf_lt {w h : Int} {i : Nat} (hi : i ∈ cellsOf w h) : i < 144 := by
  have := List.mem_range'_1.1 (List.mem_filter.1 hi).1
  omega
theorem cellsOf_len (w h : Int) : (cellsOf w h).length ≤ 144 := by
  exact Nat.le_trans (List.length_filter_le (isIn w h) (List.range' 0 144)) (by simp)

/-! ### function 90: (loop.example/g01322/impl.Image).cells -/
noncomputable def f90_c : Code := match Try.f90.body with | some c => c | none => .skip
noncomputable def f90_X : Ctx := ⟨TT, phiOf [(96, c96)]⟩
def f90_LV : List (Nat × List Nat) := [(3, [1, 3, 6])]
def f90_rv : List ResultVar := [.tmp 2]
noncomputable def f90_L (r : List A) : Nat → AS → Option (List A) := L f90_X (cnOf f90_LV) f90_c (K0 TT f90_rv) r
theorem f90_ctx : CtxOK Try.prog f90_X := ctx_of tab mix ⟨⟨Try.call96, f96_sound⟩, trivial⟩
noncomputable def f90_s3 (x0 : Int) (x1 : Int) (x2 : Int) (x3 : (Nat → Nat → Int)) (x4 : (List Int)) : AS := ⟨[(1, .a (.ptr 0 [] (0))), (3, .a (.sl 1)), (6, .a (.v (.int .i64 x0)))], [(0, some ⟨true, .box (.rc [.v (.int .i8 x1), .v (.int .i8 x2), .fa2 144 3 .u8 x3])⟩), (1, some ⟨true, .arr (.one (.i .i64)) x4⟩)], 2⟩
theorem f90_step3 (x0 : Int) (x1 : Int) (x2 : Int) (x3 : (Nat → Nat → Int)) (x4 : (List Int)) (r : List A) (h : (cond (decide (x0 < 144)) (cond (s96 (Int.tmod x0 12) (IntKind.wrap .i64 (Int.tdiv x0 12)) x1 x2) (cond (fits ((List.length (x4 : List Int) + List.length ([x0] : List Int)) * 8)) (f90_L r 3 (f90_s3 (IntKind.wrap .i64 (x0 + 1)) x1 x2 x3 (x4 ++ [x0]))) none) (f90_L r 3 (f90_s3 (IntKind.wrap .i64 (x0 + 1)) x1 x2 x3 x4))) (some [.lst (.one (.i .i64)) x4])) = some r) : f90_L r 3 (f90_s3 x0 x1 x2 x3 x4) = some r :=
  step_of (p := (cond (decide (x0 < 144)) (cond (s96 (Int.tmod x0 12) (IntKind.wrap .i64 (Int.tdiv x0 12)) x1 x2) (cond (fits ((List.length (x4 : List Int) + List.length ([x0] : List Int)) * 8)) (f90_L r 3 (f90_s3 (IntKind.wrap .i64 (x0 + 1)) x1 x2 x3 (x4 ++ [x0]))) none) (f90_L r 3 (f90_s3 (IntKind.wrap .i64 (x0 + 1)) x1 x2 x3 x4))) (some [.lst (.one (.i .i64)) x4]))) (by kernel_rfl) h
noncomputable def s90 (a0 : Int) (a1 : Int) (a2 : (Nat → Nat → Int)) : (List Int) := (cellsOf a0 a1).map fun i : Nat => (i : Int)
theorem f90_top (a0 : Int) (a1 : Int) (a2 : (Nat → Nat → Int)) (r : List A) : ev f90_X (lpc (cnOf f90_LV) (f90_L r)) f90_c (K0 TT f90_rv) (enter [.rc [.v (.int .i8 a0), .v (.int .i8 a1), .fa2 144 3 .u8 a2]]) = (f90_L r 3 (f90_s3 0 a0 a1 a2 [])) := by kernel_rfl
noncomputable def l90 (r : (List Int)) : List A := [.lst (.one (.i .i64)) r]
theorem s90_ok (a0 : Int) (a1 : Int) (a2 : (Nat → Nat → Int)) : (f90_L (l90 (s90 a0 a1 a2)) 3 (f90_s3 0 a0 a1 a2 [])) = some (l90 (s90 a0 a1 a2)) := by
  refine count_loop 144 (fun i st => st.length ≤ i → f90_L (l90 (s90 a0 a1 a2)) 3 (f90_s3 i a0 a1 a2 st) = some (l90 (s90 a0 a1 a2))) (fun st i => cond (isIn a0 a1 i) (st ++ [(i : Int)]) st) ?_ 144 0 rfl [] ?_ (Nat.le_refl _)
  · intro i st hi h hl
    apply f90_step3
    rw [show decide ((i : Int) < 144) = true from lt_true (n := 144) hi, succ64 (by omega)]
    simp only [cond_true]
    unfold isIn at h
    cases hc : s96 (Int.tmod i 12) (IntKind.wrap .i64 (Int.tdiv i 12)) a0 a1
    · rw [hc] at h; exact h (by show st.length ≤ i + 1; omega)
    · rw [hc] at h
      rw [fits_small (by simp; omega)]
      exact h (by simp; omega)
  · intro hl
    apply f90_step3
    rw [show decide (((144 : Nat) : Int) < 144) = false from rfl, cond_false, foldl_push (g := fun i : Nat => (i : Int))]
    rfl
noncomputable def c90 : List A → ACall
  | [.rc [.v (.int .i8 a0), .v (.int .i8 a1), .fa2 144 3 .u8 a2]] => ⟨(List Int), some (s90 a0 a1 a2), fun r => .one (.lst (.one (.i .i64)) r)⟩
  | _ => ACall.fail
theorem f90_sound : Sound Try.prog 90 c90 := by
  refine sound_good f90_ctx f90_LV 1 Try.func90 (c := f90_c) (by kernel_rfl) (rv := f90_rv) (by kernel_rfl) (by kernel_rfl) (by kernel_rfl) (by kernel_rfl) fun rs => ?_
  unfold c90
  split
  · rename_i a0 a1 a2; intro v h; cases h; exact ⟨rfl, l90 (s90 a0 a1 a2), rfl, (f90_top a0 a1 a2 _).trans (s90_ok a0 a1 a2)⟩
  · intro v h; cases h

/-! ### function 67: (loop.example/g01322/impl.Picture).numbers -/
noncomputable def f67_c : Code := match Try.f67.body with | some c => c | none => .skip
noncomputable def f67_X : Ctx := ⟨TT, phiOf [(90, c90)]⟩
def f67_LV : List (Nat × List Nat) := []
def f67_rv : List ResultVar := [.tmp 2]
noncomputable def f67_L (r : List A) : Nat → AS → Option (List A) := L f67_X (cnOf f67_LV) f67_c (K0 TT f67_rv) r
theorem f67_ctx : CtxOK Try.prog f67_X := ctx_of tab mix ⟨⟨Try.call90, f90_sound⟩, trivial⟩
noncomputable def s67 (a0 : Int) (a1 : Int) (a2 : (Nat → Int)) : (List Int) := (s90 a0 a1 zF2)
theorem f67_top (a0 : Int) (a1 : Int) (a2 : (Nat → Int)) (r : List A) : ev f67_X (lpc (cnOf f67_LV) (f67_L r)) f67_c (K0 TT f67_rv) (enter [.rc [.v (.int .i8 a0), .v (.int .i8 a1), .fa 144 .u8 a2]]) = (some [.lst (.one (.i .i64)) (s90 a0 a1 zF2)]) := by kernel_rfl
noncomputable def l67 (r : (List Int)) : List A := [.lst (.one (.i .i64)) r]
theorem s67_ok (a0 : Int) (a1 : Int) (a2 : (Nat → Int)) : (some [.lst (.one (.i .i64)) (s90 a0 a1 zF2)]) = some (l67 (s67 a0 a1 a2)) := by
  unfold s67
  exact rfl
noncomputable def c67 : List A → ACall
  | [.rc [.v (.int .i8 a0), .v (.int .i8 a1), .fa 144 .u8 a2]] => ⟨(List Int), some (s67 a0 a1 a2), fun r => .one (.lst (.one (.i .i64)) r)⟩
  | _ => ACall.fail
theorem f67_sound : Sound Try.prog 67 c67 := by
  refine sound_good f67_ctx f67_LV 1 Try.func67 (c := f67_c) (by kernel_rfl) (rv := f67_rv) (by kernel_rfl) (by kernel_rfl) (by kernel_rfl) (by kernel_rfl) fun rs => ?_
  unfold c67
  split
  · rename_i a0 a1 a2; intro v h; cases h; exact ⟨rfl, l67 (s67 a0 a1 a2), rfl, (f67_top a0 a1 a2 _).trans (s67_ok a0 a1 a2)⟩
  · intro v h; cases h

/-! ### function 84: (loop.example/g01322/impl.Picture).at -/
noncomputable def f84_c : Code := match Try.f84.body with | some c => c | none => .skip
noncomputable def f84_X : Ctx := ⟨TT, phiOf []⟩
def f84_LV : List (Nat × List Nat) := []
def f84_rv : List ResultVar := [.tmp 6]
noncomputable def f84_L (r : List A) : Nat → AS → Option (List A) := L f84_X (cnOf f84_LV) f84_c (K0 TT f84_rv) r
theorem f84_ctx : CtxOK Try.prog f84_X := ctx_of tab mix trivial
noncomputable def s84 (a0 : Int) (a1 : Int) (a2 : (Nat → Int)) (a3 : Int) (a4 : Int) : Option Int := (cond (inB (IntKind.wrap .i64 (a3 + (IntKind.wrap .i64 (12 * a4)))) 144) (some (a2 (Int.toNat (IntKind.wrap .i64 (a3 + (IntKind.wrap .i64 (12 * a4))))))) none)
theorem f84_top (a0 : Int) (a1 : Int) (a2 : (Nat → Int)) (a3 : Int) (a4 : Int) (r : List A) : ev f84_X (lpc (cnOf f84_LV) (f84_L r)) f84_c (K0 TT f84_rv) (enter [.rc [.v (.int .i8 a0), .v (.int .i8 a1), .fa 144 .u8 a2], .v (.int .i64 a3), .v (.int .i64 a4)]) = (cond (inB (IntKind.wrap .i64 (a3 + (IntKind.wrap .i64 (12 * a4)))) 144) (some [.v (.int .u8 (a2 (Int.toNat (IntKind.wrap .i64 (a3 + (IntKind.wrap .i64 (12 * a4)))))))]) none) := by kernel_rfl
noncomputable def l84 (r : Int) : List A := [.v (.int .u8 r)]
theorem s84_ok (a0 : Int) (a1 : Int) (a2 : (Nat → Int)) (a3 : Int) (a4 : Int) (v : Int) (h : s84 a0 a1 a2 a3 a4 = some v) : (cond (inB (IntKind.wrap .i64 (a3 + (IntKind.wrap .i64 (12 * a4)))) 144) (some [.v (.int .u8 (a2 (Int.toNat (IntKind.wrap .i64 (a3 + (IntKind.wrap .i64 (12 * a4)))))))]) none) = some (l84 v) := by
  have e : (cond (inB (IntKind.wrap .i64 (a3 + (IntKind.wrap .i64 (12 * a4)))) 144) (some [.v (.int .u8 (a2 (Int.toNat (IntKind.wrap .i64 (a3 + (IntKind.wrap .i64 (12 * a4)))))))]) none) = Option.map l84 (s84 a0 a1 a2 a3 a4) := by
    unfold s84
    exact (cond_app (Option.map l84) rfl rfl)
  rw [e, h]; rfl
noncomputable def c84 : List A → ACall
  | [.rc [.v (.int .i8 a0), .v (.int .i8 a1), .fa 144 .u8 a2], .v (.int .i64 a3), .v (.int .i64 a4)] => ⟨Int, s84 a0 a1 a2 a3 a4, fun r => .one (.v (.int .u8 r))⟩
  | _ => ACall.fail
theorem f84_sound : Sound Try.prog 84 c84 := by
  refine sound_good f84_ctx f84_LV 3 Try.func84 (c := f84_c) (by kernel_rfl) (rv := f84_rv) (by kernel_rfl) (by kernel_rfl) (by kernel_rfl) (by kernel_rfl) fun rs => ?_
  unfold c84
  split
  · rename_i a0 a1 a2 a3 a4; intro v h; exact ⟨rfl, l84 v, rfl, (f84_top a0 a1 a2 a3 a4 _).trans (s84_ok a0 a1 a2 a3 a4 v h)⟩
  · intro v h; cases h
theorem mem67 {w h : Int} {f : Nat → Int} {x : Int} (hx : x ∈ s67 w h f) : ∃ j : Nat, j ∈ cellsOf w h ∧ j < 144 ∧ x = (j : Int) := by
  obtain ⟨j, hj, rfl⟩ := List.mem_map.1 (show x ∈ (cellsOf w h).map fun i : Nat => (i : Int) from hx)
  exact ⟨j, hj, cellsOf_lt hj, rfl⟩
theorem len67 (w h : Int) (f : Nat → Int) : (s67 w h f).length ≤ 144 := by
  show ((cellsOf w h).map fun i : Nat => (i : Int)).length ≤ 144
  rw [List.length_map]; exact cellsOf_len w h
theorem bounds63 {a b c : Int} (h : s63 a b c = true) : b ≤ a ∧ a ≤ c := by
  unfold s63 at h
  cases h1 : decide (b ≤ a)
  · rw [h1] at h; cases h
  · rw [h1] at h; exact ⟨of_decide_eq_true h1, of_decide_eq_true h⟩
theorem has_in {w h : Int} {f : Nat → Int} {x y : Int} (hw : -128 ≤ w ∧ w ≤ 12) (hh : -128 ≤ h ∧ h ≤ 12) (hx : s83 w h f x y = true) : (0 ≤ x ∧ x < w) ∧ (0 ≤ y ∧ y < h) := by
  unfold s83 s96 at hx
  cases h1 : s63 x 0 (IntKind.wrap .i64 ((IntKind.wrap .i64 w) - 1))
  · rw [h1] at hx; cases hx
  · rw [h1] at hx
    have a := bounds63 h1
    have b := bounds63 hx
    rw [IntWalk.i64_in w (by omega), IntWalk.i64_in (w - 1) (by omega)] at a
    rw [IntWalk.i64_in h (by omega), IntWalk.i64_in (h - 1) (by omega)] at b
    omega
theorem place_in {x y : Int} (hx : 0 ≤ x ∧ x < 12) (hy : 0 ≤ y ∧ y < 12) : IntKind.wrap .i64 (x + (IntKind.wrap .i64 (12 * y))) = x + 12 * y ∧ inB (x + 12 * y) 144 = true := by
  rw [IntWalk.i64_in (12 * y) (by omega), IntWalk.i64_in (x + 12 * y) (by omega)]
  exact ⟨rfl, inB_of (by omega)⟩
theorem at_in {w h : Int} {f : Nat → Int} {x y : Int} (hx : 0 ≤ x ∧ x < 12) (hy : 0 ≤ y ∧ y < 12) : s84 w h f x y = some (f (Int.toNat (x + 12 * y))) := by
  unfold s84
  rw [(place_in hx hy).1, (place_in hx hy).2]; rfl
noncomputable def small (w h : Int) : Bool := decide (-128 ≤ w) && decide (w ≤ 12) && (decide (-128 ≤ h) && decide (h ≤ 12))
theorem small_of {w h : Int} (hs : small w h = true) : (-128 ≤ w ∧ w ≤ 12) ∧ (-128 ≤ h ∧ h ≤ 12) := by
  simp only [small, Bool.and_eq_true, decide_eq_true_eq] at hs
  exact ⟨hs.1, hs.2⟩
noncomputable def shX (e : Int) (i : Nat) : Int := IntKind.wrap .i64 (Int.tmod i 12 + e)
noncomputable def shY (s : Int) (i : Nat) : Int := IntKind.wrap .i64 (IntKind.wrap .i64 (Int.tdiv i 12) + s)
noncomputable def fitI (w h : Int) (f : Nat → Int) (w2 h2 : Int) (g : Nat → Int) (e s : Int) : Int :=
  (cellsOf w h).foldl (fun n i => cond (f i != 0 && (s83 w2 h2 g (shX e i) (shY s i) && (g (Int.toNat (shX e i + 12 * shY s i)) == f i))) (IntKind.wrap .i64 (n + 1)) n) 0
theorem some_of {b : Bool} {α : Type} {x v : α} (h : cond b (some x) none = some v) : b = true ∧ v = x := by
  cases b
  · cases h
  · cases h; exact ⟨rfl, rfl⟩

/-! ### function 58: loop.example/g01322/impl.fitting -/
noncomputable def f58_c : Code := match Try.f58.body with | some c => c | none => .skip
noncomputable def f58_X : Ctx := ⟨TT, phiOf [(67, c67), (83, c83), (84, c84)]⟩
def f58_LV : List (Nat × List Nat) := [(3, [2, 3, 4, 5, 9, 15, 16, 17])]
def f58_rv : List ResultVar := [.tmp 8]
noncomputable def f58_L (r : List A) : Nat → AS → Option (List A) := L f58_X (cnOf f58_LV) f58_c (K0 TT f58_rv) r
theorem f58_ctx : CtxOK Try.prog f58_X := ctx_of tab mix ⟨⟨Try.call67, f67_sound⟩, ⟨Try.call83, f83_sound⟩, ⟨Try.call84, f84_sound⟩, trivial⟩
noncomputable def f58_s3 (x0 : Int) (x1 : Int) (x2 : Int) (x3 : Int) (x4 : Int) (x5 : Int) (x6 : Int) (x7 : (Nat → Int)) (x8 : Int) (x9 : Int) (x10 : (Nat → Int)) (x11 : (List Int)) : AS := ⟨[(2, .a (.v (.int .i64 x0))), (3, .a (.v (.int .i64 x1))), (4, .a (.ptr 0 [] (0))), (5, .a (.ptr 1 [] (0))), (9, .a (.v (.int .i64 x2))), (15, .a (.sl 2)), (16, .a (.v (.int .i64 x3))), (17, .a (.v (.int .i64 x4)))], [(0, some ⟨true, .box (.rc [.v (.int .i8 x5), .v (.int .i8 x6), .fa 144 .u8 x7])⟩), (1, some ⟨true, .box (.rc [.v (.int .i8 x8), .v (.int .i8 x9), .fa 144 .u8 x10])⟩), (2, some ⟨true, .arr (.one (.i .i64)) x11⟩)], 3⟩
theorem f58_step3 (x0 : Int) (x1 : Int) (x2 : Int) (x3 : Int) (x4 : Int) (x5 : Int) (x6 : Int) (x7 : (Nat → Int)) (x8 : Int) (x9 : Int) (x10 : (Nat → Int)) (x11 : (List Int)) (r : List A) (h : (cond (decide (x4 < x3)) (cond (inB x4 (List.length x11)) (cond (inB (List.getD x11 (Int.toNat x4) 0) 144) (cond ((x7 (Int.toNat (List.getD x11 (Int.toNat x4) 0))) != 0) (cond (s83 x8 x9 x10 (IntKind.wrap .i64 ((Int.tmod (List.getD x11 (Int.toNat x4) 0) 12) + x0)) (IntKind.wrap .i64 ((IntKind.wrap .i64 (Int.tdiv (List.getD x11 (Int.toNat x4) 0) 12)) + x1))) (Option.bind (s84 x8 x9 x10 (IntKind.wrap .i64 ((Int.tmod (List.getD x11 (Int.toNat x4) 0) 12) + x0)) (IntKind.wrap .i64 ((IntKind.wrap .i64 (Int.tdiv (List.getD x11 (Int.toNat x4) 0) 12)) + x1))) fun r1 => (cond (inB (List.getD x11 (Int.toNat x4) 0) 144) (cond (r1 == (x7 (Int.toNat (List.getD x11 (Int.toNat x4) 0)))) (f58_L r 3 (f58_s3 x0 x1 (IntKind.wrap .i64 (x2 + 1)) x3 (IntKind.wrap .i64 (x4 + 1)) x5 x6 x7 x8 x9 x10 x11)) (f58_L r 3 (f58_s3 x0 x1 x2 x3 (IntKind.wrap .i64 (x4 + 1)) x5 x6 x7 x8 x9 x10 x11))) none)) (f58_L r 3 (f58_s3 x0 x1 x2 x3 (IntKind.wrap .i64 (x4 + 1)) x5 x6 x7 x8 x9 x10 x11))) (f58_L r 3 (f58_s3 x0 x1 x2 x3 (IntKind.wrap .i64 (x4 + 1)) x5 x6 x7 x8 x9 x10 x11))) none) none) (some [.v (.int .i64 x2)])) = some r) : f58_L r 3 (f58_s3 x0 x1 x2 x3 x4 x5 x6 x7 x8 x9 x10 x11) = some r :=
  step_of (p := (cond (decide (x4 < x3)) (cond (inB x4 (List.length x11)) (cond (inB (List.getD x11 (Int.toNat x4) 0) 144) (cond ((x7 (Int.toNat (List.getD x11 (Int.toNat x4) 0))) != 0) (cond (s83 x8 x9 x10 (IntKind.wrap .i64 ((Int.tmod (List.getD x11 (Int.toNat x4) 0) 12) + x0)) (IntKind.wrap .i64 ((IntKind.wrap .i64 (Int.tdiv (List.getD x11 (Int.toNat x4) 0) 12)) + x1))) (Option.bind (s84 x8 x9 x10 (IntKind.wrap .i64 ((Int.tmod (List.getD x11 (Int.toNat x4) 0) 12) + x0)) (IntKind.wrap .i64 ((IntKind.wrap .i64 (Int.tdiv (List.getD x11 (Int.toNat x4) 0) 12)) + x1))) fun r1 => (cond (inB (List.getD x11 (Int.toNat x4) 0) 144) (cond (r1 == (x7 (Int.toNat (List.getD x11 (Int.toNat x4) 0)))) (f58_L r 3 (f58_s3 x0 x1 (IntKind.wrap .i64 (x2 + 1)) x3 (IntKind.wrap .i64 (x4 + 1)) x5 x6 x7 x8 x9 x10 x11)) (f58_L r 3 (f58_s3 x0 x1 x2 x3 (IntKind.wrap .i64 (x4 + 1)) x5 x6 x7 x8 x9 x10 x11))) none)) (f58_L r 3 (f58_s3 x0 x1 x2 x3 (IntKind.wrap .i64 (x4 + 1)) x5 x6 x7 x8 x9 x10 x11))) (f58_L r 3 (f58_s3 x0 x1 x2 x3 (IntKind.wrap .i64 (x4 + 1)) x5 x6 x7 x8 x9 x10 x11))) none) none) (some [.v (.int .i64 x2)]))) (by kernel_rfl) h
noncomputable def s58 (a0 : Int) (a1 : Int) (a2 : (Nat → Int)) (a3 : Int) (a4 : Int) (a5 : (Nat → Int)) (a6 : Int) (a7 : Int) : Option Int := cond (small a3 a4) (some (fitI a0 a1 a2 a3 a4 a5 a6 a7)) none
theorem f58_top (a0 : Int) (a1 : Int) (a2 : (Nat → Int)) (a3 : Int) (a4 : Int) (a5 : (Nat → Int)) (a6 : Int) (a7 : Int) (r : List A) : ev f58_X (lpc (cnOf f58_LV) (f58_L r)) f58_c (K0 TT f58_rv) (enter [.rc [.v (.int .i8 a0), .v (.int .i8 a1), .fa 144 .u8 a2], .rc [.v (.int .i8 a3), .v (.int .i8 a4), .fa 144 .u8 a5], .v (.int .i64 a6), .v (.int .i64 a7)]) = (f58_L r 3 (f58_s3 a6 a7 0 ((List.length (s67 a0 a1 a2) : Nat) : Int) 0 a0 a1 a2 a3 a4 a5 (s67 a0 a1 a2))) := by kernel_rfl
noncomputable def l58 (r : Int) : List A := [.v (.int .i64 r)]
theorem s58_ok (a0 : Int) (a1 : Int) (a2 : (Nat → Int)) (a3 : Int) (a4 : Int) (a5 : (Nat → Int)) (a6 : Int) (a7 : Int) (v : Int) (h : s58 a0 a1 a2 a3 a4 a5 a6 a7 = some v) : (f58_L (l58 v) 3 (f58_s3 a6 a7 0 ((List.length (s67 a0 a1 a2) : Nat) : Int) 0 a0 a1 a2 a3 a4 a5 (s67 a0 a1 a2))) = some (l58 v) := by
  obtain ⟨hc, rfl⟩ := some_of h
  obtain ⟨hw, hh⟩ := small_of hc
  clear h
  have key := list_loop (0 : Int) (s67 a0 a1 a2) (fun i n => f58_L (l58 (fitI a0 a1 a2 a3 a4 a5 a6 a7)) 3 (f58_s3 a6 a7 n ((List.length (s67 a0 a1 a2) : Nat) : Int) i a0 a1 a2 a3 a4 a5 (s67 a0 a1 a2)) = some (l58 (fitI a0 a1 a2 a3 a4 a5 a6 a7)))
    (fun n x => cond (a2 x.toNat != 0 && (s83 a3 a4 a5 (shX a6 x.toNat) (shY a7 x.toNat) && (a5 (Int.toNat (shX a6 x.toNat + 12 * shY a7 x.toNat)) == a2 x.toNat))) (IntKind.wrap .i64 (n + 1)) n) ?_ 0 ?_
  · exact key
  · intro i n hi hm h
    have hl := len67 a0 a1 a2
    apply f58_step3
    rw [lt_true hi, inB_nat hi, toNat_nat, succ64 (by omega)]
    obtain ⟨j, _, hj, e⟩ := mem67 hm
    rw [e] at h ⊢
    rw [inB_nat hj, toNat_nat]
    rw [toNat_nat] at h
    simp only [cond_true]
    unfold shX shY at h
    cases h1 : (a2 j != 0)
    · rw [h1] at h; exact h
    · rw [h1] at h
      cases h2 : s83 a3 a4 a5 (IntKind.wrap .i64 (Int.tmod j 12 + a6)) (IntKind.wrap .i64 (IntKind.wrap .i64 (Int.tdiv j 12) + a7))
      · rw [h2] at h; exact h
      · rw [h2] at h
        have q := has_in hw hh h2
        rw [at_in (by omega) (by omega)]
        simp only [Bool.true_and, cond_true, Option.bind] at h ⊢
        cases h3 : (a5 (Int.toNat (IntKind.wrap .i64 (Int.tmod j 12 + a6) + 12 * IntKind.wrap .i64 (IntKind.wrap .i64 (Int.tdiv j 12) + a7))) == a2 j)
        · rw [h3] at h; exact h
        · rw [h3] at h; exact h
  · apply f58_step3
    rw [lt_neg, cond_false]
    unfold fitI
    rw [show s67 a0 a1 a2 = (cellsOf a0 a1).map fun i : Nat => (i : Int) from rfl, List.foldl_map]
    rfl
noncomputable def c58 : List A → ACall
  | [.rc [.v (.int .i8 a0), .v (.int .i8 a1), .fa 144 .u8 a2], .rc [.v (.int .i8 a3), .v (.int .i8 a4), .fa 144 .u8 a5], .v (.int .i64 a6), .v (.int .i64 a7)] => ⟨Int, s58 a0 a1 a2 a3 a4 a5 a6 a7, fun r => .one (.v (.int .i64 r))⟩
  | _ => ACall.fail
theorem f58_sound : Sound Try.prog 58 c58 := by
  refine sound_good f58_ctx f58_LV 4 Try.func58 (c := f58_c) (by kernel_rfl) (rv := f58_rv) (by kernel_rfl) (by kernel_rfl) (by kernel_rfl) (by kernel_rfl) fun rs => ?_
  unfold c58
  split
  · rename_i a0 a1 a2 a3 a4 a5 a6 a7; intro v h; exact ⟨rfl, l58 v, rfl, (f58_top a0 a1 a2 a3 a4 a5 a6 a7 _).trans (s58_ok a0 a1 a2 a3 a4 a5 a6 a7 v h)⟩
  · intro v h; cases h
noncomputable def i8 (x : Int) : Bool := decide (-128 ≤ x) && decide (x ≤ 127)
theorem i8_of {x : Int} (h : i8 x = true) : -128 ≤ x ∧ x ≤ 127 := by
  simpa [i8] using h
theorem i8_in {x : Int} (h : -128 ≤ x ∧ x ≤ 127) : i8 x = true := by simp [i8, h.1, h.2]
noncomputable def bestOf (fit : Int → Int → Int) : Int × Int × Int :=
  (List.range' 0 7).foldl (fun st (a : Nat) => (List.range' 0 7).foldl (fun st (b : Nat) => cond (decide (fit ((a : Int) - 3) ((b : Int) - 3) > st.2.2)) ((a : Int) - 3, (b : Int) - 3, fit ((a : Int) - 3) ((b : Int) - 3)) st) st) (0, 0, -1)
theorem bounds57 {a b c : Int} (h : s57 a b c = true) : b ≤ a ∧ a ≤ c := by
  unfold s57 at h
  cases h1 : decide (a ≥ b)
  · rw [h1] at h; cases h
  · rw [h1] at h; exact ⟨of_decide_eq_true h1, of_decide_eq_true h⟩
theorem small53 {w h : Int} {f : Nat → Int} (hw : i8 w = true) (hh : i8 h = true) (hv : s53 w h f = true) : small w h = true := by
  have a := i8_of hw
  have b := i8_of hh
  unfold s53 s82 at hv
  rw [IntWalk.i64_in w (by omega), IntWalk.i64_in h (by omega)] at hv
  cases h1 : s63 w 1 12
  · rw [h1] at hv; cases hv
  · cases h2 : s63 h 1 12
    · rw [h1, h2] at hv; cases hv
    · have q1 := bounds63 h1
      have q2 := bounds63 h2
      simp only [small, Bool.and_eq_true, decide_eq_true_eq]
      omega
theorem m3_lt {i : Nat} (h : i < 7) : decide ((i : Int) - 3 ≤ 3) = true := decide_eq_true (by omega)
theorem m3_end : decide (((7 : Nat) : Int) - 3 ≤ 3) = false := rfl
theorem m3_succ {i : Nat} (h : i < 7) : IntKind.wrap .i64 ((i : Int) - 3 + 1) = ((i + 1 : Nat) : Int) - 3 := by rw [IntWalk.i64_in _ (by omega)]; omega
noncomputable def fitS (f g : Nat → Int) (e s : Int) : Int :=
  (List.range' 0 144).foldl (fun n (i : Nat) => cond (f i != 0 && (s57 (shX e i) 0 11 && (s57 (shY s i) 0 11 && (g (Int.toNat (shX e i + 12 * shY s i)) == f i)))) (IntKind.wrap .i64 (n + 1)) n) 0

/-! ### function 19: loop.example/g01322/impl.BestShiftOf -/
noncomputable def f19_c : Code := match Try.f19.body with | some c => c | none => .skip
noncomputable def f19_X : Ctx := ⟨TT, phiOf [(53, c53), (58, c58)]⟩
def f19_LV : List (Nat × List Nat) := [(5, [2, 3, 8, 9, 10, 11]), (8, [2, 3, 8, 9, 10, 11, 12])]
def f19_rv : List ResultVar := [.tmp 4, .tmp 5, .tmp 6, .tmp 7]
noncomputable def f19_L (r : List A) : Nat → AS → Option (List A) := L f19_X (cnOf f19_LV) f19_c (K0 TT f19_rv) r
theorem f19_ctx : CtxOK Try.prog f19_X := ctx_of tab mix ⟨⟨Try.call53, f53_sound⟩, ⟨Try.call58, f58_sound⟩, trivial⟩
noncomputable def f19_s5 (x0 : Int) (x1 : Int) (x2 : Int) (x3 : Int) (x4 : Int) (x5 : Int) (x6 : (Nat → Int)) (x7 : Int) (x8 : Int) (x9 : (Nat → Int)) : AS := ⟨[(2, .a (.ptr 0 [] (0))), (3, .a (.ptr 1 [] (0))), (8, .a (.v (.int .i64 x0))), (9, .a (.v (.int .i64 x1))), (10, .a (.v (.int .i64 x2))), (11, .a (.v (.int .i64 x3)))], [(0, some ⟨true, .box (.rc [.v (.int .i8 x4), .v (.int .i8 x5), .fa 144 .u8 x6])⟩), (1, some ⟨true, .box (.rc [.v (.int .i8 x7), .v (.int .i8 x8), .fa 144 .u8 x9])⟩)], 2⟩
noncomputable def f19_s8 (x0 : Int) (x1 : Int) (x2 : Int) (x3 : Int) (x4 : Int) (x5 : Int) (x6 : Int) (x7 : (Nat → Int)) (x8 : Int) (x9 : Int) (x10 : (Nat → Int)) : AS := ⟨[(2, .a (.ptr 0 [] (0))), (3, .a (.ptr 1 [] (0))), (8, .a (.v (.int .i64 x0))), (9, .a (.v (.int .i64 x1))), (10, .a (.v (.int .i64 x2))), (11, .a (.v (.int .i64 x3))), (12, .a (.v (.int .i64 x4)))], [(0, some ⟨true, .box (.rc [.v (.int .i8 x5), .v (.int .i8 x6), .fa 144 .u8 x7])⟩), (1, some ⟨true, .box (.rc [.v (.int .i8 x8), .v (.int .i8 x9), .fa 144 .u8 x10])⟩)], 2⟩
theorem f19_step5 (x0 : Int) (x1 : Int) (x2 : Int) (x3 : Int) (x4 : Int) (x5 : Int) (x6 : (Nat → Int)) (x7 : Int) (x8 : Int) (x9 : (Nat → Int)) (r : List A) (h : (cond (decide (x3 ≤ 3)) (f19_L r 8 (f19_s8 x0 x1 x2 x3 (-3) x4 x5 x6 x7 x8 x9)) (some [.v (.int .i64 x0), .v (.int .i64 x1), .v (.int .i64 x2), .v (.int .i64 0)])) = some r) : f19_L r 5 (f19_s5 x0 x1 x2 x3 x4 x5 x6 x7 x8 x9) = some r :=
  step_of (p := (cond (decide (x3 ≤ 3)) (f19_L r 8 (f19_s8 x0 x1 x2 x3 (-3) x4 x5 x6 x7 x8 x9)) (some [.v (.int .i64 x0), .v (.int .i64 x1), .v (.int .i64 x2), .v (.int .i64 0)]))) (by kernel_rfl) h
theorem f19_step8 (x0 : Int) (x1 : Int) (x2 : Int) (x3 : Int) (x4 : Int) (x5 : Int) (x6 : Int) (x7 : (Nat → Int)) (x8 : Int) (x9 : Int) (x10 : (Nat → Int)) (r : List A) (h : (cond (decide (x4 ≤ 3)) (Option.bind (s58 x5 x6 x7 x8 x9 x10 x3 x4) fun r1 => (cond (decide (r1 > x2)) (f19_L r 8 (f19_s8 x3 x4 r1 x3 (IntKind.wrap .i64 (x4 + 1)) x5 x6 x7 x8 x9 x10)) (f19_L r 8 (f19_s8 x0 x1 x2 x3 (IntKind.wrap .i64 (x4 + 1)) x5 x6 x7 x8 x9 x10)))) (f19_L r 5 (f19_s5 x0 x1 x2 (IntKind.wrap .i64 (x3 + 1)) x5 x6 x7 x8 x9 x10))) = some r) : f19_L r 8 (f19_s8 x0 x1 x2 x3 x4 x5 x6 x7 x8 x9 x10) = some r :=
  step_of (p := (cond (decide (x4 ≤ 3)) (Option.bind (s58 x5 x6 x7 x8 x9 x10 x3 x4) fun r1 => (cond (decide (r1 > x2)) (f19_L r 8 (f19_s8 x3 x4 r1 x3 (IntKind.wrap .i64 (x4 + 1)) x5 x6 x7 x8 x9 x10)) (f19_L r 8 (f19_s8 x0 x1 x2 x3 (IntKind.wrap .i64 (x4 + 1)) x5 x6 x7 x8 x9 x10)))) (f19_L r 5 (f19_s5 x0 x1 x2 (IntKind.wrap .i64 (x3 + 1)) x5 x6 x7 x8 x9 x10)))) (by kernel_rfl) h
noncomputable def s19 (a0 : Int) (a1 : Int) (a2 : (Nat → Int)) (a3 : Int) (a4 : Int) (a5 : (Nat → Int)) : Option (Int × Int × Int × Int) := cond (i8 a0 && i8 a1 && (i8 a3 && i8 a4)) (some (cond (!(s53 a0 a1 a2)) (0, 0, 0, 1) (cond (!(s53 a3 a4 a5)) (0, 0, 0, 1) ((bestOf (fitI a0 a1 a2 a3 a4 a5)).1, (bestOf (fitI a0 a1 a2 a3 a4 a5)).2.1, (bestOf (fitI a0 a1 a2 a3 a4 a5)).2.2, 0)))) none
theorem f19_top (a0 : Int) (a1 : Int) (a2 : (Nat → Int)) (a3 : Int) (a4 : Int) (a5 : (Nat → Int)) (r : List A) : ev f19_X (lpc (cnOf f19_LV) (f19_L r)) f19_c (K0 TT f19_rv) (enter [.rc [.v (.int .i8 a0), .v (.int .i8 a1), .fa 144 .u8 a2], .rc [.v (.int .i8 a3), .v (.int .i8 a4), .fa 144 .u8 a5]]) = (cond (!(s53 a0 a1 a2)) (some [.v (.int .i64 0), .v (.int .i64 0), .v (.int .i64 0), .v (.int .i64 1)]) (cond (!(s53 a3 a4 a5)) (some [.v (.int .i64 0), .v (.int .i64 0), .v (.int .i64 0), .v (.int .i64 1)]) (f19_L r 5 (f19_s5 0 0 (-1) (-3) a0 a1 a2 a3 a4 a5)))) := by kernel_rfl
noncomputable def l19 (r : (Int × Int × Int × Int)) : List A := [.v (.int .i64 r.1), .v (.int .i64 r.2.1), .v (.int .i64 r.2.2.1), .v (.int .i64 r.2.2.2)]
theorem s19_ok (a0 : Int) (a1 : Int) (a2 : (Nat → Int)) (a3 : Int) (a4 : Int) (a5 : (Nat → Int)) (v : (Int × Int × Int × Int)) (h : s19 a0 a1 a2 a3 a4 a5 = some v) : (cond (!(s53 a0 a1 a2)) (some [.v (.int .i64 0), .v (.int .i64 0), .v (.int .i64 0), .v (.int .i64 1)]) (cond (!(s53 a3 a4 a5)) (some [.v (.int .i64 0), .v (.int .i64 0), .v (.int .i64 0), .v (.int .i64 1)]) (f19_L (l19 v) 5 (f19_s5 0 0 (-1) (-3) a0 a1 a2 a3 a4 a5)))) = some (l19 v) := by
  obtain ⟨hc, rfl⟩ := some_of h
  clear h
  simp only [Bool.and_eq_true] at hc
  cases h1 : s53 a0 a1 a2
  · rfl
  · cases h2 : s53 a3 a4 a5
    · rfl
    · have hs := small53 hc.2.1 hc.2.2 h2
      have hfit : ∀ e s, s58 a0 a1 a2 a3 a4 a5 e s = some (fitI a0 a1 a2 a3 a4 a5 e s) := fun e s => by
        unfold s58; rw [hs]; rfl
      simp only [Bool.not_true, cond_false]
      have key := count_loop 7 (fun i st => f19_L (l19 ((bestOf (fitI a0 a1 a2 a3 a4 a5)).1, (bestOf (fitI a0 a1 a2 a3 a4 a5)).2.1, (bestOf (fitI a0 a1 a2 a3 a4 a5)).2.2, 0)) 5 (f19_s5 st.1 st.2.1 st.2.2 ((i : Int) - 3) a0 a1 a2 a3 a4 a5) = some (l19 ((bestOf (fitI a0 a1 a2 a3 a4 a5)).1, (bestOf (fitI a0 a1 a2 a3 a4 a5)).2.1, (bestOf (fitI a0 a1 a2 a3 a4 a5)).2.2, 0)))
        (fun st (a : Nat) => (List.range' 0 7).foldl (fun st (b : Nat) => cond (decide (fitI a0 a1 a2 a3 a4 a5 ((a : Int) - 3) ((b : Int) - 3) > st.2.2)) ((a : Int) - 3, (b : Int) - 3, fitI a0 a1 a2 a3 a4 a5 ((a : Int) - 3) ((b : Int) - 3)) st) st) ?_ 7 0 rfl (0, 0, -1) ?_
      · exact key
      · intro i st hi h
        apply f19_step5
        rw [m3_lt hi, cond_true]
        have key := count_loop 7 (fun j st => f19_L (l19 ((bestOf (fitI a0 a1 a2 a3 a4 a5)).1, (bestOf (fitI a0 a1 a2 a3 a4 a5)).2.1, (bestOf (fitI a0 a1 a2 a3 a4 a5)).2.2, 0)) 8 (f19_s8 st.1 st.2.1 st.2.2 ((i : Int) - 3) ((j : Int) - 3) a0 a1 a2 a3 a4 a5) = some (l19 ((bestOf (fitI a0 a1 a2 a3 a4 a5)).1, (bestOf (fitI a0 a1 a2 a3 a4 a5)).2.1, (bestOf (fitI a0 a1 a2 a3 a4 a5)).2.2, 0)))
          (fun st (b : Nat) => cond (decide (fitI a0 a1 a2 a3 a4 a5 ((i : Int) - 3) ((b : Int) - 3) > st.2.2)) ((i : Int) - 3, (b : Int) - 3, fitI a0 a1 a2 a3 a4 a5 ((i : Int) - 3) ((b : Int) - 3)) st) ?_ 7 0 rfl st ?_
        · exact key
        · intro j st hj h
          apply f19_step8
          rw [m3_lt hj, cond_true, hfit, m3_succ hj]
          simp only [Option.bind]
          cases h3 : decide (fitI a0 a1 a2 a3 a4 a5 ((i : Int) - 3) ((j : Int) - 3) > st.2.2)
          · rw [h3] at h; exact h
          · rw [h3] at h; exact h
        · apply f19_step8
          rw [m3_end, cond_false, m3_succ hi]
          exact h
      · apply f19_step5
        rw [m3_end, cond_false]
        rfl
noncomputable def c19 : List A → ACall
  | [.rc [.v (.int .i8 a0), .v (.int .i8 a1), .fa 144 .u8 a2], .rc [.v (.int .i8 a3), .v (.int .i8 a4), .fa 144 .u8 a5]] => ⟨(Int × Int × Int × Int), s19 a0 a1 a2 a3 a4 a5, fun r => .tup [.v (.int .i64 r.1), .v (.int .i64 r.2.1), .v (.int .i64 r.2.2.1), .v (.int .i64 r.2.2.2)]⟩
  | _ => ACall.fail
theorem f19_sound : Sound Try.prog 19 c19 := by
  refine sound_good f19_ctx f19_LV 2 Try.func19 (c := f19_c) (by kernel_rfl) (rv := f19_rv) (by kernel_rfl) (by kernel_rfl) (by kernel_rfl) (by kernel_rfl) fun rs => ?_
  unfold c19
  split
  · rename_i a0 a1 a2 a3 a4 a5; intro v h; exact ⟨rfl, l19 v, rfl, (f19_top a0 a1 a2 a3 a4 a5 _).trans (s19_ok a0 a1 a2 a3 a4 a5 v h)⟩
  · intro v h; cases h

/-! ### function 18: loop.example/g01322/spec.BestShiftOf -/
noncomputable def f18_c : Code := match Try.f18.body with | some c => c | none => .skip
noncomputable def f18_X : Ctx := ⟨TT, phiOf [(47, c47), (57, c57)]⟩
def f18_LV : List (Nat × List Nat) := [(7, [2, 3, 8, 9, 10, 11]), (10, [2, 3, 8, 9, 10, 11, 12]), (14, [2, 3, 8, 9, 10, 11, 12, 13, 14])]
def f18_rv : List ResultVar := [.tmp 4, .tmp 5, .tmp 6, .tmp 7]
noncomputable def f18_L (r : List A) : Nat → AS → Option (List A) := L f18_X (cnOf f18_LV) f18_c (K0 TT f18_rv) r
theorem f18_ctx : CtxOK Try.prog f18_X := ctx_of tab mix ⟨⟨Try.call47, f47_sound⟩, ⟨Try.call57, f57_sound⟩, trivial⟩
noncomputable def f18_s7 (x0 : Int) (x1 : Int) (x2 : Int) (x3 : Int) (x4 : Int) (x5 : Int) (x6 : (Nat → Int)) (x7 : Int) (x8 : Int) (x9 : (Nat → Int)) : AS := ⟨[(2, .a (.ptr 0 [] (0))), (3, .a (.ptr 1 [] (0))), (8, .a (.v (.int .i64 x0))), (9, .a (.v (.int .i64 x1))), (10, .a (.v (.int .i64 x2))), (11, .a (.v (.int .i64 x3)))], [(0, some ⟨true, .box (.rc [.v (.int .i8 x4), .v (.int .i8 x5), .fa 144 .u8 x6])⟩), (1, some ⟨true, .box (.rc [.v (.int .i8 x7), .v (.int .i8 x8), .fa 144 .u8 x9])⟩)], 2⟩
noncomputable def f18_s10 (x0 : Int) (x1 : Int) (x2 : Int) (x3 : Int) (x4 : Int) (x5 : Int) (x6 : Int) (x7 : (Nat → Int)) (x8 : Int) (x9 : Int) (x10 : (Nat → Int)) : AS := ⟨[(2, .a (.ptr 0 [] (0))), (3, .a (.ptr 1 [] (0))), (8, .a (.v (.int .i64 x0))), (9, .a (.v (.int .i64 x1))), (10, .a (.v (.int .i64 x2))), (11, .a (.v (.int .i64 x3))), (12, .a (.v (.int .i64 x4)))], [(0, some ⟨true, .box (.rc [.v (.int .i8 x5), .v (.int .i8 x6), .fa 144 .u8 x7])⟩), (1, some ⟨true, .box (.rc [.v (.int .i8 x8), .v (.int .i8 x9), .fa 144 .u8 x10])⟩)], 2⟩
noncomputable def f18_s14 (x0 : Int) (x1 : Int) (x2 : Int) (x3 : Int) (x4 : Int) (x5 : Int) (x6 : Int) (x7 : Int) (x8 : Int) (x9 : (Nat → Int)) (x10 : Int) (x11 : Int) (x12 : (Nat → Int)) : AS := ⟨[(2, .a (.ptr 0 [] (0))), (3, .a (.ptr 1 [] (0))), (8, .a (.v (.int .i64 x0))), (9, .a (.v (.int .i64 x1))), (10, .a (.v (.int .i64 x2))), (11, .a (.v (.int .i64 x3))), (12, .a (.v (.int .i64 x4))), (13, .a (.v (.int .i64 x5))), (14, .a (.v (.int .i64 x6)))], [(0, some ⟨true, .box (.rc [.v (.int .i8 x7), .v (.int .i8 x8), .fa 144 .u8 x9])⟩), (1, some ⟨true, .box (.rc [.v (.int .i8 x10), .v (.int .i8 x11), .fa 144 .u8 x12])⟩)], 2⟩
theorem f18_step7 (x0 : Int) (x1 : Int) (x2 : Int) (x3 : Int) (x4 : Int) (x5 : Int) (x6 : (Nat → Int)) (x7 : Int) (x8 : Int) (x9 : (Nat → Int)) (r : List A) (h : (cond (decide (x3 ≤ 3)) (f18_L r 10 (f18_s10 x0 x1 x2 x3 (-3) x4 x5 x6 x7 x8 x9)) (some [.v (.int .i64 x0), .v (.int .i64 x1), .v (.int .i64 x2), .v (.int .i64 0)])) = some r) : f18_L r 7 (f18_s7 x0 x1 x2 x3 x4 x5 x6 x7 x8 x9) = some r :=
  step_of (p := (cond (decide (x3 ≤ 3)) (f18_L r 10 (f18_s10 x0 x1 x2 x3 (-3) x4 x5 x6 x7 x8 x9)) (some [.v (.int .i64 x0), .v (.int .i64 x1), .v (.int .i64 x2), .v (.int .i64 0)]))) (by kernel_rfl) h
theorem f18_step10 (x0 : Int) (x1 : Int) (x2 : Int) (x3 : Int) (x4 : Int) (x5 : Int) (x6 : Int) (x7 : (Nat → Int)) (x8 : Int) (x9 : Int) (x10 : (Nat → Int)) (r : List A) (h : (cond (decide (x4 ≤ 3)) (f18_L r 14 (f18_s14 x0 x1 x2 x3 x4 0 0 x5 x6 x7 x8 x9 x10)) (f18_L r 7 (f18_s7 x0 x1 x2 (IntKind.wrap .i64 (x3 + 1)) x5 x6 x7 x8 x9 x10))) = some r) : f18_L r 10 (f18_s10 x0 x1 x2 x3 x4 x5 x6 x7 x8 x9 x10) = some r :=
  step_of (p := (cond (decide (x4 ≤ 3)) (f18_L r 14 (f18_s14 x0 x1 x2 x3 x4 0 0 x5 x6 x7 x8 x9 x10)) (f18_L r 7 (f18_s7 x0 x1 x2 (IntKind.wrap .i64 (x3 + 1)) x5 x6 x7 x8 x9 x10)))) (by kernel_rfl) h
theorem f18_step14 (x0 : Int) (x1 : Int) (x2 : Int) (x3 : Int) (x4 : Int) (x5 : Int) (x6 : Int) (x7 : Int) (x8 : Int) (x9 : (Nat → Int)) (x10 : Int) (x11 : Int) (x12 : (Nat → Int)) (r : List A) (h : (cond (decide (x6 < 144)) (cond (inB x6 144) (cond ((x9 (Int.toNat x6)) != 0) (cond (s57 (IntKind.wrap .i64 ((Int.tmod x6 12) + x3)) 0 11) (cond (s57 (IntKind.wrap .i64 ((IntKind.wrap .i64 (Int.tdiv x6 12)) + x4)) 0 11) (cond (inB (IntKind.wrap .i64 ((IntKind.wrap .i64 ((Int.tmod x6 12) + x3)) + (IntKind.wrap .i64 (12 * (IntKind.wrap .i64 ((IntKind.wrap .i64 (Int.tdiv x6 12)) + x4)))))) 144) (cond (inB x6 144) (cond ((x12 (Int.toNat (IntKind.wrap .i64 ((IntKind.wrap .i64 ((Int.tmod x6 12) + x3)) + (IntKind.wrap .i64 (12 * (IntKind.wrap .i64 ((IntKind.wrap .i64 (Int.tdiv x6 12)) + x4)))))))) == (x9 (Int.toNat x6))) (f18_L r 14 (f18_s14 x0 x1 x2 x3 x4 (IntKind.wrap .i64 (x5 + 1)) (IntKind.wrap .i64 (x6 + 1)) x7 x8 x9 x10 x11 x12)) (f18_L r 14 (f18_s14 x0 x1 x2 x3 x4 x5 (IntKind.wrap .i64 (x6 + 1)) x7 x8 x9 x10 x11 x12))) none) none) (f18_L r 14 (f18_s14 x0 x1 x2 x3 x4 x5 (IntKind.wrap .i64 (x6 + 1)) x7 x8 x9 x10 x11 x12))) (f18_L r 14 (f18_s14 x0 x1 x2 x3 x4 x5 (IntKind.wrap .i64 (x6 + 1)) x7 x8 x9 x10 x11 x12))) (f18_L r 14 (f18_s14 x0 x1 x2 x3 x4 x5 (IntKind.wrap .i64 (x6 + 1)) x7 x8 x9 x10 x11 x12))) none) (cond (decide (x5 > x2)) (f18_L r 10 (f18_s10 x3 x4 x5 x3 (IntKind.wrap .i64 (x4 + 1)) x7 x8 x9 x10 x11 x12)) (f18_L r 10 (f18_s10 x0 x1 x2 x3 (IntKind.wrap .i64 (x4 + 1)) x7 x8 x9 x10 x11 x12)))) = some r) : f18_L r 14 (f18_s14 x0 x1 x2 x3 x4 x5 x6 x7 x8 x9 x10 x11 x12) = some r :=
  step_of (p := (cond (decide (x6 < 144)) (cond (inB x6 144) (cond ((x9 (Int.toNat x6)) != 0) (cond (s57 (IntKind.wrap .i64 ((Int.tmod x6 12) + x3)) 0 11) (cond (s57 (IntKind.wrap .i64 ((IntKind.wrap .i64 (Int.tdiv x6 12)) + x4)) 0 11) (cond (inB (IntKind.wrap .i64 ((IntKind.wrap .i64 ((Int.tmod x6 12) + x3)) + (IntKind.wrap .i64 (12 * (IntKind.wrap .i64 ((IntKind.wrap .i64 (Int.tdiv x6 12)) + x4)))))) 144) (cond (inB x6 144) (cond ((x12 (Int.toNat (IntKind.wrap .i64 ((IntKind.wrap .i64 ((Int.tmod x6 12) + x3)) + (IntKind.wrap .i64 (12 * (IntKind.wrap .i64 ((IntKind.wrap .i64 (Int.tdiv x6 12)) + x4)))))))) == (x9 (Int.toNat x6))) (f18_L r 14 (f18_s14 x0 x1 x2 x3 x4 (IntKind.wrap .i64 (x5 + 1)) (IntKind.wrap .i64 (x6 + 1)) x7 x8 x9 x10 x11 x12)) (f18_L r 14 (f18_s14 x0 x1 x2 x3 x4 x5 (IntKind.wrap .i64 (x6 + 1)) x7 x8 x9 x10 x11 x12))) none) none) (f18_L r 14 (f18_s14 x0 x1 x2 x3 x4 x5 (IntKind.wrap .i64 (x6 + 1)) x7 x8 x9 x10 x11 x12))) (f18_L r 14 (f18_s14 x0 x1 x2 x3 x4 x5 (IntKind.wrap .i64 (x6 + 1)) x7 x8 x9 x10 x11 x12))) (f18_L r 14 (f18_s14 x0 x1 x2 x3 x4 x5 (IntKind.wrap .i64 (x6 + 1)) x7 x8 x9 x10 x11 x12))) none) (cond (decide (x5 > x2)) (f18_L r 10 (f18_s10 x3 x4 x5 x3 (IntKind.wrap .i64 (x4 + 1)) x7 x8 x9 x10 x11 x12)) (f18_L r 10 (f18_s10 x0 x1 x2 x3 (IntKind.wrap .i64 (x4 + 1)) x7 x8 x9 x10 x11 x12))))) (by kernel_rfl) h
noncomputable def s18 (a0 : Int) (a1 : Int) (a2 : (Nat → Int)) (a3 : Int) (a4 : Int) (a5 : (Nat → Int)) : (Int × Int × Int × Int) := (cond (!(s47 a0 a1 a2)) (0, 0, 0, 1) (cond (!(s47 a3 a4 a5)) (0, 0, 0, 1) ((bestOf (fitS a2 a5)).1, (bestOf (fitS a2 a5)).2.1, (bestOf (fitS a2 a5)).2.2, 0)))
theorem f18_top (a0 : Int) (a1 : Int) (a2 : (Nat → Int)) (a3 : Int) (a4 : Int) (a5 : (Nat → Int)) (r : List A) : ev f18_X (lpc (cnOf f18_LV) (f18_L r)) f18_c (K0 TT f18_rv) (enter [.rc [.v (.int .i8 a0), .v (.int .i8 a1), .fa 144 .u8 a2], .rc [.v (.int .i8 a3), .v (.int .i8 a4), .fa 144 .u8 a5]]) = (cond (!(s47 a0 a1 a2)) (some [.v (.int .i64 0), .v (.int .i64 0), .v (.int .i64 0), .v (.int .i64 1)]) (cond (!(s47 a3 a4 a5)) (some [.v (.int .i64 0), .v (.int .i64 0), .v (.int .i64 0), .v (.int .i64 1)]) (f18_L r 7 (f18_s7 0 0 (-1) (-3) a0 a1 a2 a3 a4 a5)))) := by kernel_rfl
noncomputable def l18 (r : (Int × Int × Int × Int)) : List A := [.v (.int .i64 r.1), .v (.int .i64 r.2.1), .v (.int .i64 r.2.2.1), .v (.int .i64 r.2.2.2)]
theorem f18_inner (r : List A) (x0 x1 x2 : Int) (e s : Int) (a0 a1 : Int) (a2 : Nat → Int) (a3 a4 : Int) (a5 : Nat → Int)
    (h : (cond (decide (fitS a2 a5 e s > x2)) (f18_L r 10 (f18_s10 e s (fitS a2 a5 e s) e (IntKind.wrap .i64 (s + 1)) a0 a1 a2 a3 a4 a5)) (f18_L r 10 (f18_s10 x0 x1 x2 e (IntKind.wrap .i64 (s + 1)) a0 a1 a2 a3 a4 a5))) = some r) : f18_L r 14 (f18_s14 x0 x1 x2 e s 0 0 a0 a1 a2 a3 a4 a5) = some r := by
  have key := count_loop 144 (fun i n => f18_L r 14 (f18_s14 x0 x1 x2 e s n i a0 a1 a2 a3 a4 a5) = some r)
    (fun n (i : Nat) => cond (a2 i != 0 && (s57 (shX e i) 0 11 && (s57 (shY s i) 0 11 && (a5 (Int.toNat (shX e i + 12 * shY s i)) == a2 i)))) (IntKind.wrap .i64 (n + 1)) n) ?_ 144 0 rfl 0 ?_
  · exact key
  · intro i n hi h
    apply f18_step14
    rw [show decide ((i : Int) < 144) = true from lt_true (n := 144) hi, inB_nat hi, toNat_nat, succ64 (by omega)]
    simp only [cond_true]
    unfold shX shY at h
    cases h1 : (a2 i != 0)
    · rw [h1] at h; exact h
    · rw [h1] at h
      cases h2 : s57 (IntKind.wrap .i64 (Int.tmod i 12 + e)) 0 11
      · rw [h2] at h; exact h
      · rw [h2] at h
        cases h3 : s57 (IntKind.wrap .i64 (IntKind.wrap .i64 (Int.tdiv i 12) + s)) 0 11
        · rw [h3] at h; exact h
        · rw [h3] at h
          have q1 := bounds57 h2
          have q2 := bounds57 h3
          have q := place_in (x := IntKind.wrap .i64 (Int.tmod i 12 + e)) (y := IntKind.wrap .i64 (IntKind.wrap .i64 (Int.tdiv i 12) + s)) (by omega) (by omega)
          rw [q.1, q.2]
          simp only [Bool.true_and, cond_true] at h ⊢
          cases h4 : (a5 (Int.toNat (IntKind.wrap .i64 (Int.tmod i 12 + e) + 12 * IntKind.wrap .i64 (IntKind.wrap .i64 (Int.tdiv i 12) + s))) == a2 i)
          · rw [h4] at h; exact h
          · rw [h4] at h; exact h
  · apply f18_step14
    rw [show decide (((144 : Nat) : Int) < 144) = false from rfl, cond_false]
    exact h
theorem s18_ok (a0 : Int) (a1 : Int) (a2 : (Nat → Int)) (a3 : Int) (a4 : Int) (a5 : (Nat → Int)) : (cond (!(s47 a0 a1 a2)) (some [.v (.int .i64 0), .v (.int .i64 0), .v (.int .i64 0), .v (.int .i64 1)]) (cond (!(s47 a3 a4 a5)) (some [.v (.int .i64 0), .v (.int .i64 0), .v (.int .i64 0), .v (.int .i64 1)]) (f18_L (l18 (s18 a0 a1 a2 a3 a4 a5)) 7 (f18_s7 0 0 (-1) (-3) a0 a1 a2 a3 a4 a5)))) = some (l18 (s18 a0 a1 a2 a3 a4 a5)) := by
  unfold s18
  cases h1 : s47 a0 a1 a2
  · rfl
  · cases h2 : s47 a3 a4 a5
    · rfl
    · simp only [Bool.not_true, cond_false]
      have key := count_loop 7 (fun i st => f18_L (l18 ((bestOf (fitS a2 a5)).1, (bestOf (fitS a2 a5)).2.1, (bestOf (fitS a2 a5)).2.2, 0)) 7 (f18_s7 st.1 st.2.1 st.2.2 ((i : Int) - 3) a0 a1 a2 a3 a4 a5) = some (l18 ((bestOf (fitS a2 a5)).1, (bestOf (fitS a2 a5)).2.1, (bestOf (fitS a2 a5)).2.2, 0)))
        (fun st (a : Nat) => (List.range' 0 7).foldl (fun st (b : Nat) => cond (decide (fitS a2 a5 ((a : Int) - 3) ((b : Int) - 3) > st.2.2)) ((a : Int) - 3, (b : Int) - 3, fitS a2 a5 ((a : Int) - 3) ((b : Int) - 3)) st) st) ?_ 7 0 rfl (0, 0, -1) ?_
      · exact key
      · intro i st hi h
        apply f18_step7
        rw [m3_lt hi, cond_true]
        have key := count_loop 7 (fun j st => f18_L (l18 ((bestOf (fitS a2 a5)).1, (bestOf (fitS a2 a5)).2.1, (bestOf (fitS a2 a5)).2.2, 0)) 10 (f18_s10 st.1 st.2.1 st.2.2 ((i : Int) - 3) ((j : Int) - 3) a0 a1 a2 a3 a4 a5) = some (l18 ((bestOf (fitS a2 a5)).1, (bestOf (fitS a2 a5)).2.1, (bestOf (fitS a2 a5)).2.2, 0)))
          (fun st (b : Nat) => cond (decide (fitS a2 a5 ((i : Int) - 3) ((b : Int) - 3) > st.2.2)) ((i : Int) - 3, (b : Int) - 3, fitS a2 a5 ((i : Int) - 3) ((b : Int) - 3)) st) ?_ 7 0 rfl st ?_
        · exact key
        · intro j st hj h
          apply f18_step10
          rw [m3_lt hj, cond_true]
          apply f18_inner
          rw [m3_succ hj]
          cases h3 : decide (fitS a2 a5 ((i : Int) - 3) ((j : Int) - 3) > st.2.2)
          · rw [h3] at h; exact h
          · rw [h3] at h; exact h
        · apply f18_step10
          rw [m3_end, cond_false, m3_succ hi]
          exact h
      · apply f18_step7
        rw [m3_end, cond_false]
        rfl
noncomputable def c18 : List A → ACall
  | [.rc [.v (.int .i8 a0), .v (.int .i8 a1), .fa 144 .u8 a2], .rc [.v (.int .i8 a3), .v (.int .i8 a4), .fa 144 .u8 a5]] => ⟨(Int × Int × Int × Int), some (s18 a0 a1 a2 a3 a4 a5), fun r => .tup [.v (.int .i64 r.1), .v (.int .i64 r.2.1), .v (.int .i64 r.2.2.1), .v (.int .i64 r.2.2.2)]⟩
  | _ => ACall.fail
theorem f18_sound : Sound Try.prog 18 c18 := by
  refine sound_good f18_ctx f18_LV 2 Try.func18 (c := f18_c) (by kernel_rfl) (rv := f18_rv) (by kernel_rfl) (by kernel_rfl) (by kernel_rfl) (by kernel_rfl) fun rs => ?_
  unfold c18
  split
  · rename_i a0 a1 a2 a3 a4 a5; intro v h; cases h; exact ⟨rfl, l18 (s18 a0 a1 a2 a3 a4 a5), rfl, (f18_top a0 a1 a2 a3 a4 a5 _).trans (s18_ok a0 a1 a2 a3 a4 a5)⟩
  · intro v h; cases h

/-! ### function 4: loop.example/g01322/laws.FnExactBestShiftOf -/
noncomputable def f4_c : Code := match Try.f4.body with | some c => c | none => .skip
noncomputable def f4_X : Ctx := ⟨TT, phiOf [(16, c16), (18, c18), (19, c19)]⟩
def f4_LV : List (Nat × List Nat) := []
def f4_rv : List ResultVar := [.tmp 4]
noncomputable def f4_L (r : List A) : Nat → AS → Option (List A) := L f4_X (cnOf f4_LV) f4_c (K0 TT f4_rv) r
theorem f4_ctx : CtxOK Try.prog f4_X := ctx_of tab mix ⟨⟨Try.call16, f16_sound⟩, ⟨Try.call18, f18_sound⟩, ⟨Try.call19, f19_sound⟩, trivial⟩
noncomputable def s4 (a0 : Int) (a1 : Int) (a2 : (Nat → Int)) (a3 : Int) (a4 : Int) (a5 : (Nat → Int)) : Option Bool := (Option.bind (s19 (s16 a0 a1 a2).1 (s16 a0 a1 a2).2.1 (s16 a0 a1 a2).2.2 (s16 a3 a4 a5).1 (s16 a3 a4 a5).2.1 (s16 a3 a4 a5).2.2) fun r1 => (cond (r1.1 != (s18 (s16 a0 a1 a2).1 (s16 a0 a1 a2).2.1 (s16 a0 a1 a2).2.2 (s16 a3 a4 a5).1 (s16 a3 a4 a5).2.1 (s16 a3 a4 a5).2.2).1) (some false) (cond (r1.2.1 != (s18 (s16 a0 a1 a2).1 (s16 a0 a1 a2).2.1 (s16 a0 a1 a2).2.2 (s16 a3 a4 a5).1 (s16 a3 a4 a5).2.1 (s16 a3 a4 a5).2.2).2.1) (some false) (cond (r1.2.2.1 != (s18 (s16 a0 a1 a2).1 (s16 a0 a1 a2).2.1 (s16 a0 a1 a2).2.2 (s16 a3 a4 a5).1 (s16 a3 a4 a5).2.1 (s16 a3 a4 a5).2.2).2.2.1) (some false) (cond (r1.2.2.2 != (s18 (s16 a0 a1 a2).1 (s16 a0 a1 a2).2.1 (s16 a0 a1 a2).2.2 (s16 a3 a4 a5).1 (s16 a3 a4 a5).2.1 (s16 a3 a4 a5).2.2).2.2.2) (some false) (some true))))))
theorem f4_top (a0 : Int) (a1 : Int) (a2 : (Nat → Int)) (a3 : Int) (a4 : Int) (a5 : (Nat → Int)) (r : List A) : ev f4_X (lpc (cnOf f4_LV) (f4_L r)) f4_c (K0 TT f4_rv) (enter [.rc [.v (.int .i8 a0), .v (.int .i8 a1), .fa 144 .u8 a2], .rc [.v (.int .i8 a3), .v (.int .i8 a4), .fa 144 .u8 a5]]) = (Option.bind (s19 (s16 a0 a1 a2).1 (s16 a0 a1 a2).2.1 (s16 a0 a1 a2).2.2 (s16 a3 a4 a5).1 (s16 a3 a4 a5).2.1 (s16 a3 a4 a5).2.2) fun r1 => (cond (r1.1 != (s18 (s16 a0 a1 a2).1 (s16 a0 a1 a2).2.1 (s16 a0 a1 a2).2.2 (s16 a3 a4 a5).1 (s16 a3 a4 a5).2.1 (s16 a3 a4 a5).2.2).1) (some [.v (.bool false)]) (cond (r1.2.1 != (s18 (s16 a0 a1 a2).1 (s16 a0 a1 a2).2.1 (s16 a0 a1 a2).2.2 (s16 a3 a4 a5).1 (s16 a3 a4 a5).2.1 (s16 a3 a4 a5).2.2).2.1) (some [.v (.bool false)]) (cond (r1.2.2.1 != (s18 (s16 a0 a1 a2).1 (s16 a0 a1 a2).2.1 (s16 a0 a1 a2).2.2 (s16 a3 a4 a5).1 (s16 a3 a4 a5).2.1 (s16 a3 a4 a5).2.2).2.2.1) (some [.v (.bool false)]) (cond (r1.2.2.2 != (s18 (s16 a0 a1 a2).1 (s16 a0 a1 a2).2.1 (s16 a0 a1 a2).2.2 (s16 a3 a4 a5).1 (s16 a3 a4 a5).2.1 (s16 a3 a4 a5).2.2).2.2.2) (some [.v (.bool false)]) (some [.v (.bool true)])))))) := by kernel_rfl
noncomputable def l4 (r : Bool) : List A := [.v (.bool r)]
theorem s4_ok (a0 : Int) (a1 : Int) (a2 : (Nat → Int)) (a3 : Int) (a4 : Int) (a5 : (Nat → Int)) (v : Bool) (h : s4 a0 a1 a2 a3 a4 a5 = some v) : (Option.bind (s19 (s16 a0 a1 a2).1 (s16 a0 a1 a2).2.1 (s16 a0 a1 a2).2.2 (s16 a3 a4 a5).1 (s16 a3 a4 a5).2.1 (s16 a3 a4 a5).2.2) fun r1 => (cond (r1.1 != (s18 (s16 a0 a1 a2).1 (s16 a0 a1 a2).2.1 (s16 a0 a1 a2).2.2 (s16 a3 a4 a5).1 (s16 a3 a4 a5).2.1 (s16 a3 a4 a5).2.2).1) (some [.v (.bool false)]) (cond (r1.2.1 != (s18 (s16 a0 a1 a2).1 (s16 a0 a1 a2).2.1 (s16 a0 a1 a2).2.2 (s16 a3 a4 a5).1 (s16 a3 a4 a5).2.1 (s16 a3 a4 a5).2.2).2.1) (some [.v (.bool false)]) (cond (r1.2.2.1 != (s18 (s16 a0 a1 a2).1 (s16 a0 a1 a2).2.1 (s16 a0 a1 a2).2.2 (s16 a3 a4 a5).1 (s16 a3 a4 a5).2.1 (s16 a3 a4 a5).2.2).2.2.1) (some [.v (.bool false)]) (cond (r1.2.2.2 != (s18 (s16 a0 a1 a2).1 (s16 a0 a1 a2).2.1 (s16 a0 a1 a2).2.2 (s16 a3 a4 a5).1 (s16 a3 a4 a5).2.1 (s16 a3 a4 a5).2.2).2.2.2) (some [.v (.bool false)]) (some [.v (.bool true)])))))) = some (l4 v) := by
  have e : (Option.bind (s19 (s16 a0 a1 a2).1 (s16 a0 a1 a2).2.1 (s16 a0 a1 a2).2.2 (s16 a3 a4 a5).1 (s16 a3 a4 a5).2.1 (s16 a3 a4 a5).2.2) fun r1 => (cond (r1.1 != (s18 (s16 a0 a1 a2).1 (s16 a0 a1 a2).2.1 (s16 a0 a1 a2).2.2 (s16 a3 a4 a5).1 (s16 a3 a4 a5).2.1 (s16 a3 a4 a5).2.2).1) (some [.v (.bool false)]) (cond (r1.2.1 != (s18 (s16 a0 a1 a2).1 (s16 a0 a1 a2).2.1 (s16 a0 a1 a2).2.2 (s16 a3 a4 a5).1 (s16 a3 a4 a5).2.1 (s16 a3 a4 a5).2.2).2.1) (some [.v (.bool false)]) (cond (r1.2.2.1 != (s18 (s16 a0 a1 a2).1 (s16 a0 a1 a2).2.1 (s16 a0 a1 a2).2.2 (s16 a3 a4 a5).1 (s16 a3 a4 a5).2.1 (s16 a3 a4 a5).2.2).2.2.1) (some [.v (.bool false)]) (cond (r1.2.2.2 != (s18 (s16 a0 a1 a2).1 (s16 a0 a1 a2).2.1 (s16 a0 a1 a2).2.2 (s16 a3 a4 a5).1 (s16 a3 a4 a5).2.1 (s16 a3 a4 a5).2.2).2.2.2) (some [.v (.bool false)]) (some [.v (.bool true)])))))) = Option.map l4 (s4 a0 a1 a2 a3 a4 a5) := by
    unfold s4
    exact (bind_app fun _ => (cond_app (Option.map l4) rfl (cond_app (Option.map l4) rfl (cond_app (Option.map l4) rfl (cond_app (Option.map l4) rfl rfl)))))
  rw [e, h]; rfl
noncomputable def c4 : List A → ACall
  | [.rc [.v (.int .i8 a0), .v (.int .i8 a1), .fa 144 .u8 a2], .rc [.v (.int .i8 a3), .v (.int .i8 a4), .fa 144 .u8 a5]] => ⟨Bool, s4 a0 a1 a2 a3 a4 a5, fun r => .one (.v (.bool r))⟩
  | _ => ACall.fail
theorem f4_sound : Sound Try.prog 4 c4 := by
  refine sound_good f4_ctx f4_LV 2 Try.func4 (c := f4_c) (by kernel_rfl) (rv := f4_rv) (by kernel_rfl) (by kernel_rfl) (by kernel_rfl) (by kernel_rfl) fun rs => ?_
  unfold c4
  split
  · rename_i a0 a1 a2 a3 a4 a5; intro v h; exact ⟨rfl, l4 v, rfl, (f4_top a0 a1 a2 a3 a4 a5 _).trans (s4_ok a0 a1 a2 a3 a4 a5 v h)⟩
  · intro v h; cases h
end Go.RR
