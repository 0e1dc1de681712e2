/- The law. -/
import Derived.Test.YtbmaolhjplapoaaGreatVw
import Derived.Test.YtbmaolhjplapoaaGreatVe
import Derived.Test.YtbmaolhjplapoaaGreatFb
set_option linter.unusedVariables false
set_option linter.unusedSimpArgs false
set_option linter.unusedSectionVars false
set_option maxRecDepth 100000
namespace Go.RR
open Go Go.Proofs
open Go.IntKind (wrap)
noncomputable def zEH := zu Tryz.f4
noncomputable def zDr : Ctx := ⟨TT, zr [], zw, zU⟩
def zyb : List (Nat × zE) := []
def zAj : List ResultVar := [.tmp 4]
theorem zHB : zq Tryz.prog zDr := zo tab mix trivial
noncomputable def zoH (a0 a1 : List Int) : Bool := (cond (decide ((a0.length : Int) > 3000)) true (decide ((a1.length : Int) > 3000)))
theorem zKl (a0 a1 : List Int) (r : List A) : Tq zDr zyb zEH zAj r [.lst (.one (.i .u8)) a0, .lst (.one (.i .u8)) a1] = (cond (decide ((a0.length : Int) > 3000)) (some [.v (.bool true)]) (some [.v (.bool (decide ((a1.length : Int) > 3000)))])) := by kernel_rfl
noncomputable def zRG (r : Bool) : List A := [.v (.bool r)]
theorem zSq (a0 a1 : List Int) : (cond (decide ((a0.length : Int) > 3000)) (some [.v (.bool true)]) (some [.v (.bool (decide ((a1.length : Int) > 3000)))])) = some (zRG (zoH a0 a1)) := by
 unfold zoH
 exact (zM (fun x => some (zRG x)) rfl rfl)
noncomputable def zP8 : List A → ze
 | [.lst (.one (.i .u8)) a0, .lst (.one (.i .u8)) a1] => ⟨Bool, some (zoH a0 a1), fun r => .one (.v (.bool r))⟩
 | _ => ze.fail
theorem zuQ : zC Tryz.prog 4 zP8 := by
 refine good zHB zyb zEH zAj 2 Tryz.func4 fun rs => ?_
 unfold zP8
 split
 ·rename_i a0 a1; intro v h; cases h; exact ⟨rfl, zRG (zoH a0 a1), rfl, (zKl a0 a1 _).trans (zSq a0 a1)⟩
 ·intro v h; cases h
noncomputable def zqH := zu Tryz.f3
noncomputable def zsA : Ctx := ⟨TT, zr [(10, zOz), (11, zPP), (12, zML), (13, zPS), (14, zPh), (15, zQh), (16, zOU), (17, zSC), (18, zNC), (19, zSB), (20, zOW), (21, zPy), (22, zNx), (23, zPY), (24, zLI), (25, zL9), (26, zPK), (27, zSm), (28, zB4), (4, zP8), (5, zP7), (6, zPb), (7, zMy), (8, zOM), (9, zNY)], zw, zU⟩
def zlx : List (Nat × zE) := [(8, ([0, 1, 5, 6, 7, 8, 9, 10, 11], [], [])), (11, ([0, 1, 5, 6, 7, 8, 9, 10, 11, 12], [], []))]
def zmN : List ResultVar := [.tmp 4]
noncomputable def ziw := Lq zsA zlx zqH zmN
theorem zIc : zq Tryz.prog zsA := zo tab mix ⟨⟨Tryz.call10, zw5⟩, ⟨Tryz.call11, zvx⟩, ⟨Tryz.call12, zs7⟩, ⟨Tryz.call13, zvc⟩, ⟨Tryz.call14, zvu⟩, ⟨Tryz.call15, zAk⟩, ⟨Tryz.call16, zwU⟩, ⟨Tryz.call17, zuX⟩, ⟨Tryz.call18, zwe⟩, ⟨Tryz.call19, zzx⟩, ⟨Tryz.call20, zzv⟩, ⟨Tryz.call21, zvy⟩, ⟨Tryz.call22, zzE⟩, ⟨Tryz.call23, zwD⟩, ⟨Tryz.call24, zyG⟩, ⟨Tryz.call25, zy5⟩, ⟨Tryz.call26, zvM⟩, ⟨Tryz.call27, zy4⟩, ⟨Tryz.call28, zgW⟩, ⟨Tryz.call4, zuQ⟩, ⟨Tryz.call5, ztK⟩, ⟨Tryz.call6, zzA⟩, ⟨Tryz.call7, zys⟩, ⟨Tryz.call8, zus⟩, ⟨Tryz.call9, zwV⟩, trivial⟩
noncomputable def zyB (x0 x1 x2 x3 : Int) (x4 x5 : List Int) (x6 x7 : Int) (x8 : Nat → Int) (x9 : List (List Int)) (x10 : List (List Int)) : AS := ⟨[(0, .a (.sl 0)), (1, .a (.sl 1)), (5, .a (.ptr 2 [] (0))), (6, .a (.sl 3)), (7, .a (.v (.int .i64 x0))), (8, .a (.sl 4)), (9, .a (.v (.int .i64 x1))), (10, .a (.v (.int .i64 x2))), (11, .a (.v (.int .i64 x3)))], [(0, some ⟨false, .arr (.one (.i .u8)) x4⟩), (1, some ⟨false, .arr (.one (.i .u8)) x5⟩), (2, some ⟨true, .box (.rc [.v (.int .i8 x6), .v (.int .i8 x7), .fa 144 .u8 x8])⟩), (3, some ⟨true, .arr (.one (.ls .i64)) x9⟩), (4, some ⟨true, .arr (.one (.ls .i64)) x10⟩)], 5⟩
noncomputable def zpc (x0 x1 x2 x3 x4 : Int) (x5 x6 : List Int) (x7 x8 : Int) (x9 : Nat → Int) (x10 : List (List Int)) (x11 : List (List Int)) : AS := ⟨[(0, .a (.sl 0)), (1, .a (.sl 1)), (5, .a (.ptr 2 [] (0))), (6, .a (.sl 3)), (7, .a (.v (.int .i64 x0))), (8, .a (.sl 4)), (9, .a (.v (.int .i64 x1))), (10, .a (.v (.int .i64 x2))), (11, .a (.v (.int .i64 x3))), (12, .a (.v (.int .i64 x4)))], [(0, some ⟨false, .arr (.one (.i .u8)) x5⟩), (1, some ⟨false, .arr (.one (.i .u8)) x6⟩), (2, some ⟨true, .box (.rc [.v (.int .i8 x7), .v (.int .i8 x8), .fa 144 .u8 x9])⟩), (3, some ⟨true, .arr (.one (.ls .i64)) x10⟩), (4, some ⟨true, .arr (.one (.ls .i64)) x11⟩)], 5⟩
abbrev zPL := Bool
noncomputable def zay (r : Bool) : List A := [.v (.bool r)]
abbrev uD := (Int × Int × Int × Int × (List Int) × (List Int) × Int × Int × (Nat → Int) × (List (List Int)) × (List (List Int)))
abbrev zis := zPL
abbrev Vb := (Int × Int × Int × Int × Int × (List Int) × (List Int) × Int × Int × (Nat → Int) × (List (List Int)) × (List (List Int)))
abbrev zjS := (uD ⊕ zis)
section
variable {R R' : Type} {S : R → Prop} {r : R'} (E : zPL → Option R) (E' : zPL → Option R') (G8 : uD → Option R) (G8' : uD → Option R') (G11 : Vb → Option R) (G11' : Vb → Option R')
noncomputable def uy (x0 x1 x2 x3 : Int) (x4 x5 : List Int) (x6 x7 : Int) (x8 : Nat → Int) (x9 x10 : List (List Int)) : Option R := (cond (decide (x3 < (x10.length : Int))) (G11 (x0, x1, x2, x3, 0, x4, x5, x6, x7, x8, x9, x10)) (cond (x0 != x1) (E false) (cond (x0 != 0) (E false) (Option.bind (zky x9 x10) fun r4 => (cond (!r4) (E false) (cond (x2 != (wrap .i64 ((wrap .i64 x6) * (wrap .i64 x7)))) (E false) (Option.bind (zjm x4) fun r5 => (Option.bind (znz x5) fun r6 => (Option.bind (zpC (r5.1) (r5.2.1) (r5.2.2) r6) fun r7 => (Option.bind (zj0 (r5.1) (r5.2.1) (r5.2.2) r6) fun r8 => (Option.bind (zj9 (r5.1) (r5.2.1) (r5.2.2) (r8.1) (r8.2.1) (r8.2.2.1) r6) fun r9 => (Option.bind (zo5 (wrap .i64 r5.1) (wrap .i64 r5.2.1) 1) fun r10 => (Option.bind (zj9 (r5.1) (r5.2.1) (r5.2.2) (r10.1) (r10.2.1) (r10.2.2.1) r6) fun r11 => (cond (r7.2.2.2 != r8.2.2.2) (E false) (cond (r7.2.2.2 != 0) (E false) (cond (!((r7.1 == r8.1) && ((r7.2.1 == r8.2.1) && ((W6 144 r7.2.2.1 r8.2.2.1) && true)))) (E false) (cond (r9.2 != 0) (E false) (cond (r10.2.2.2 != 0) (E false) (cond (r11.2 != 0) (E false) (cond (decide (r11.1 < r9.1)) (E false) (Option.bind (zlP x5) fun r12 => (Option.bind (zm5 r12 1) fun r13 => (Option.bind (zoX (r13.1) 1 (r12.length : Int)) fun r14 => (Option.bind (zjI (r13.1) 1 (r12.length : Int)) fun r15 => (Option.bind (znx (r15.1) 1) fun r16 => (cond (r13.2 != 0) (E false) (cond (r14.2 != r15.2) (E false) (cond (r14.2 != 0) (E false) (Option.bind (ziZ (r14.1) (r15.1)) fun r17 => (cond (!r17) (E false) (cond (r16.2 != 0) (E false) (cond (r16.1 != r13.1) (E false) (Option.bind (zmg x4) fun r18 => (Option.bind (zkw r18 2 20000) fun r19 => (Option.bind (zhV r18 2 20000) fun r20 => (Option.bind (zm6 x5 r18) fun r21 => (Option.bind (zkl r18 2 r21) fun r22 => (Option.bind (zgP r18 2 (r22.1)) fun r23 => (cond (r19.2.2 != r20.2.2) (E false) (Option.bind (znr (r19.1) (r20.1)) fun r24 => (cond (!r24) (E false) (cond (r19.2.1 != r20.2.1) (E false) (cond (r22.2 != 0) (E false) (cond (r23.2 != 0) (E false) (cond (r19.2.2 != 0) (E (r19.2.2 == 7)) (Option.bind (zax r18 2 (r20.1)) fun r25 => (cond r25 (E (decide (r20.2.1 ≤ r23.1))) (E false))))))))))))))))))))))))))))))))))))))))))))))))
theorem zyU (x0 x1 x2 x3 : Int) (x4 x5 : List Int) (x6 x7 : Int) (x8 : Nat → Int) (x9 x10 : List (List Int)) (h : sem S (uy E G11 x0 x1 x2 x3 x4 x5 x6 x7 x8 x9 x10)) (hE : zJ S r E E') (h11 : zJ S r G11 G11') : uy E' G11' x0 x1 x2 x3 x4 x5 x6 x7 x8 x9 x10 = some r := by
 revert h
 unfold uy
 repeat' first | refine zy ?_ ?_ | refine zA fun _ => ?_ | exact zz | exact hE _ | exact h11 _ | refine zp (fun _ => ?_) (fun _ => ?_)
noncomputable def WV (x0 x1 x2 x3 x4 : Int) (x5 x6 : List Int) (x7 x8 : Int) (x9 : Nat → Int) (x10 x11 : List (List Int)) : Option R := (cond (inB x3 x11.length) (cond (decide (x4 < ((List.length (List.getD x11 (Int.toNat x3) ([] : List Int)) : Nat) : Int))) (cond (inB x3 x11.length) (cond (inB x4 (List.length (List.getD x11 (Int.toNat x3) ([] : List Int)))) (cond (inB (List.getD (List.getD x11 (Int.toNat x3) ([] : List Int)) (Int.toNat x4) 0) 144) (cond (inB x3 x11.length) (cond (inB 0 (List.length (List.getD x11 (Int.toNat x3) ([] : List Int)))) (cond (inB (List.getD (List.getD x11 (Int.toNat x3) ([] : List Int)) 0 0) 144) (cond ((x9 (Int.toNat (List.getD (List.getD x11 (Int.toNat x3) ([] : List Int)) (Int.toNat x4) 0))) != (x9 (Int.toNat (List.getD (List.getD x11 (Int.toNat x3) ([] : List Int)) 0 0)))) (E false) (G11 (x0, x1, (wrap .i64 (x2 + 1)), x3, (wrap .i64 (x4 + 1)), x5, x6, x7, x8, x9, x10, x11))) none) none) none) none) none) none) (G8 (x0, x1, x2, (wrap .i64 (x3 + 1)), x5, x6, x7, x8, x9, x10, x11))) none)
theorem zp8 (x0 x1 x2 x3 x4 : Int) (x5 x6 : List Int) (x7 x8 : Int) (x9 : Nat → Int) (x10 x11 : List (List Int)) (h : sem S (WV E G8 G11 x0 x1 x2 x3 x4 x5 x6 x7 x8 x9 x10 x11)) (hE : zJ S r E E') (h8 : zJ S r G8 G8') (h11 : zJ S r G11 G11') : WV E' G8' G11' x0 x1 x2 x3 x4 x5 x6 x7 x8 x9 x10 x11 = some r := by
 revert h
 unfold WV
 repeat' first | refine zy ?_ ?_ | refine zA fun _ => ?_ | exact zz | exact hE _ | exact h8 _ | exact h11 _ | refine zp (fun _ => ?_) (fun _ => ?_)
noncomputable def zmC (a0 a1 : List Int) : Option R := (cond (zoH a0 a1) (E true) (Option.bind (zmW a0) fun r1 => (Option.bind (znD (r1.1) (r1.2.1) (r1.2.2)) fun r2 => (Option.bind (zi0 (r1.1) (r1.2.1) (r1.2.2)) fun r3 => (G8 (r2.2, r3.2, 0, 0, a0, a1, r1.1, r1.2.1, r1.2.2, r2.1, r3.1))))))
theorem zLe (a0 a1 : List Int) (h : sem S (zmC E G8 a0 a1)) (hE : zJ S r E E') (h8 : zJ S r G8 G8') : zmC E' G8' a0 a1 = some r := by
 revert h
 unfold zmC
 repeat' first | refine zy ?_ ?_ | refine zA fun _ => ?_ | exact zz | exact hE _ | exact h8 _ | refine zp (fun _ => ?_) (fun _ => ?_)
end
noncomputable def zef (r : List A) (x : uD) : Option (List A) := ziw r 8 (zyB x.1 x.2.1 x.2.2.1 x.2.2.2.1 x.2.2.2.2.1 x.2.2.2.2.2.1 x.2.2.2.2.2.2.1 x.2.2.2.2.2.2.2.1 x.2.2.2.2.2.2.2.2.1 x.2.2.2.2.2.2.2.2.2.1 x.2.2.2.2.2.2.2.2.2.2)
noncomputable def zga (r : List A) (x : Vb) : Option (List A) := ziw r 11 (zpc x.1 x.2.1 x.2.2.1 x.2.2.2.1 x.2.2.2.2.1 x.2.2.2.2.2.1 x.2.2.2.2.2.2.1 x.2.2.2.2.2.2.2.1 x.2.2.2.2.2.2.2.2.1 x.2.2.2.2.2.2.2.2.2.1 x.2.2.2.2.2.2.2.2.2.2.1 x.2.2.2.2.2.2.2.2.2.2.2)
theorem zrv (x0 x1 x2 x3 x4 : Int) (x5 x6 : List Int) (x7 x8 : Int) (x9 : Nat → Int) (x10 x11 : List (List Int)) (r : List A) (h : WV (fun v => some (zay v)) (zef r) (zga r) x0 x1 x2 x3 x4 x5 x6 x7 x8 x9 x10 x11 = some r) : ziw r 11 (zpc x0 x1 x2 x3 x4 x5 x6 x7 x8 x9 x10 x11) = some r :=
 zn h (by kernel_rfl)
noncomputable def XD (x0 x1 x2 x3 x4 : Int) (x5 x6 : List Int) (x7 x8 : Int) (x9 : Nat → Int) (x10 x11 : List (List Int)) : Option (Vb ⊕ zjS) := WV (fun v => some (Sum.inr (Sum.inr v))) (fun x => some (Sum.inr (Sum.inl x))) (fun x => some (Sum.inl x)) x0 x1 x2 x3 x4 x5 x6 x7 x8 x9 x10 x11
noncomputable def vl (x : Vb) : Option zjS := zI (fun x => XD x.1 x.2.1 x.2.2.1 x.2.2.2.1 x.2.2.2.2.1 x.2.2.2.2.2.1 x.2.2.2.2.2.2.1 x.2.2.2.2.2.2.2.1 x.2.2.2.2.2.2.2.2.1 x.2.2.2.2.2.2.2.2.2.1 x.2.2.2.2.2.2.2.2.2.2.1 x.2.2.2.2.2.2.2.2.2.2.2) FU x
noncomputable def zpa (r : List A) (x : Vb) : Prop := zga r x = some r
theorem zzc (x0 x1 x2 x3 : Int) (x4 x5 : List Int) (x6 x7 : Int) (x8 : Nat → Int) (x9 x10 : List (List Int)) (r : List A) (h : uy (fun v => some (zay v)) (zga r) x0 x1 x2 x3 x4 x5 x6 x7 x8 x9 x10 = some r) : ziw r 8 (zyB x0 x1 x2 x3 x4 x5 x6 x7 x8 x9 x10) = some r :=
 zn h (by kernel_rfl)
noncomputable def wm (x0 x1 x2 x3 : Int) (x4 x5 : List Int) (x6 x7 : Int) (x8 : Nat → Int) (x9 x10 : List (List Int)) : Option (uD ⊕ zis) := uy (fun v => some (Sum.inr v)) vl x0 x1 x2 x3 x4 x5 x6 x7 x8 x9 x10
noncomputable def ug (x : uD) : Option zis := zI (fun x => wm x.1 x.2.1 x.2.2.1 x.2.2.2.1 x.2.2.2.2.1 x.2.2.2.2.2.1 x.2.2.2.2.2.2.1 x.2.2.2.2.2.2.2.1 x.2.2.2.2.2.2.2.2.1 x.2.2.2.2.2.2.2.2.2.1 x.2.2.2.2.2.2.2.2.2.2) FU x
noncomputable def ziJ (r : List A) (x : uD) : Prop := zef r x = some r
noncomputable def zmK (r : List A) : zis → Prop := fun v => r = zay v
noncomputable def zpk (r : List A) : zjS → Prop := Za (ziJ r) (zmK r)
theorem zBy (r : List A) : ∀ x, sem (zpk r) (vl x) → zpa r x :=
 fun x => zi (G := zpa r) (E := zpk r) (step := fun x => XD x.1 x.2.1 x.2.2.1 x.2.2.2.1 x.2.2.2.2.1 x.2.2.2.2.2.1 x.2.2.2.2.2.2.1 x.2.2.2.2.2.2.2.1 x.2.2.2.2.2.2.2.2.1 x.2.2.2.2.2.2.2.2.2.1 x.2.2.2.2.2.2.2.2.2.2.1 x.2.2.2.2.2.2.2.2.2.2.2) (fun x h => zrv x.1 x.2.1 x.2.2.1 x.2.2.2.1 x.2.2.2.2.1 x.2.2.2.2.2.1 x.2.2.2.2.2.2.1 x.2.2.2.2.2.2.2.1 x.2.2.2.2.2.2.2.2.1 x.2.2.2.2.2.2.2.2.2.1 x.2.2.2.2.2.2.2.2.2.2.1 x.2.2.2.2.2.2.2.2.2.2.2 r (zp8 _ _ _ _ _ _ x.1 x.2.1 x.2.2.1 x.2.2.2.1 x.2.2.2.2.1 x.2.2.2.2.2.1 x.2.2.2.2.2.2.1 x.2.2.2.2.2.2.2.1 x.2.2.2.2.2.2.2.2.1 x.2.2.2.2.2.2.2.2.2.1 x.2.2.2.2.2.2.2.2.2.2.1 x.2.2.2.2.2.2.2.2.2.2.2 h (fun _ h => zb h fun q => zj q) (fun _ h => zb h fun q => q) (fun _ h => zb h fun q => q))) FU x
theorem zLa (r : List A) : ∀ x, sem (zmK r) (ug x) → ziJ r x :=
 fun x => zi (G := ziJ r) (E := zmK r) (step := fun x => wm x.1 x.2.1 x.2.2.1 x.2.2.2.1 x.2.2.2.2.1 x.2.2.2.2.2.1 x.2.2.2.2.2.2.1 x.2.2.2.2.2.2.2.1 x.2.2.2.2.2.2.2.2.1 x.2.2.2.2.2.2.2.2.2.1 x.2.2.2.2.2.2.2.2.2.2) (fun x h => zzc x.1 x.2.1 x.2.2.1 x.2.2.2.1 x.2.2.2.2.1 x.2.2.2.2.2.1 x.2.2.2.2.2.2.1 x.2.2.2.2.2.2.2.1 x.2.2.2.2.2.2.2.2.1 x.2.2.2.2.2.2.2.2.2.1 x.2.2.2.2.2.2.2.2.2.2 r (zyU _ _ _ _ x.1 x.2.1 x.2.2.1 x.2.2.2.1 x.2.2.2.2.1 x.2.2.2.2.2.1 x.2.2.2.2.2.2.1 x.2.2.2.2.2.2.2.1 x.2.2.2.2.2.2.2.2.1 x.2.2.2.2.2.2.2.2.2.1 x.2.2.2.2.2.2.2.2.2.2 h (fun _ h => zb h fun q => zj q) (zBy r))) FU x
noncomputable def ztZ (a0 a1 : List Int) : Option Bool := zmC some ug a0 a1
theorem zIE (a0 a1 : List Int) (r : List A) : Tq zsA zlx zqH zmN r [.lst (.one (.i .u8)) a0, .lst (.one (.i .u8)) a1] = zmC (fun v => some (zay v)) (zef r) a0 a1 := by kernel_rfl
theorem zMc (a0 a1 : List Int) (v : Bool) (h : ztZ a0 a1 = some v) : zmC (fun v => some (zay v)) (zef (zay v)) a0 a1 = some (zay v) :=
 zLe _ _ _ _ a0 a1 (show sem (fun w => zay v = zay w) (ztZ a0 a1) from ⟨v, h, rfl⟩) (fun _ h => zb h fun q => zj q) (zLa (zay v))
noncomputable def zTJ : List A → ze
 | [.lst (.one (.i .u8)) a0, .lst (.one (.i .u8)) a1] => ⟨Bool, ztZ a0 a1, fun r => .one (.v (.bool r))⟩
 | _ => ze.fail
theorem zvw : zC Tryz.prog 3 zTJ := by
 refine good zIc zlx zqH zmN 2 Tryz.func3 fun rs => ?_
 unfold zTJ
 split
 ·rename_i a0 a1; intro v h; exact ⟨rfl, zay v, rfl, (zIE a0 a1 _).trans (zMc a0 a1 v h)⟩
 ·intro v h; cases h
end Go.RR
