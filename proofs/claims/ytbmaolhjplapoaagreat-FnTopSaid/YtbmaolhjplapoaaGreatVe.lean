/- What a picture costs: colours that a palette has. -/
import Derived.Test.YtbmaolhjplapoaaGreatVb
import Derived.Test.YtbmaolhjplapoaaGreatRi
import Derived.WalkKit
import Derived.ProofKit
set_option linter.unusedVariables false
set_option linter.unusedSimpArgs false
set_option linter.unusedSectionVars false
set_option maxRecDepth 100000
namespace Go.RR
open Go Go.Proofs
open Go.IntKind (wrap)
noncomputable def zDc := zu Tryz.f90
noncomputable def zDW : Ctx := ⟨TT, zr [], zw, zU⟩
def zuy : List (Nat × zE) := []
def zye : List ResultVar := [.tmp 3]
theorem zLv : zq Tryz.prog zDW := zo tab mix trivial
noncomputable def zj1 (a0 : Int) (a1 : List (Nat → Int)) : Bool := (decide ((wrap .i64 a0) > (a1.length : Int)))
theorem zH2 (a0 : Int) (a1 : List (Nat → Int)) (r : List A) : Tq zDW zuy zDc zye r [.v (.int .u8 a0), .ref (.lst (.one (.fa 3 .u8)) a1)] = (some [.v (.bool (decide ((wrap .i64 a0) > (a1.length : Int))))]) := by kernel_rfl
noncomputable def zTD (r : Bool) : List A := [.v (.bool r)]
theorem zOq (a0 : Int) (a1 : List (Nat → Int)) : (some [.v (.bool (decide ((wrap .i64 a0) > (a1.length : Int))))]) = some (zTD (zj1 a0 a1)) := by
 unfold zj1
 exact rfl
noncomputable def zM1 : List A → ze
 | [.v (.int .u8 a0), .ref (.lst (.one (.fa 3 .u8)) a1)] => ⟨Bool, some (zj1 a0 a1), fun r => .one (.v (.bool r))⟩
 | _ => ze.fail
theorem zwN : zC Tryz.prog 90 zM1 := by
 refine good zLv zuy zDc zye 2 Tryz.func90 fun rs => ?_
 unfold zM1
 split
 ·rename_i a0 a1; intro v h; cases h; exact ⟨rfl, zTD (zj1 a0 a1), rfl, (zH2 a0 a1 _).trans (zOq a0 a1)⟩
 ·intro v h; cases h
noncomputable def zrC := zu Tryz.f123
noncomputable def zsD : Ctx := ⟨TT, zr [(90, zM1)], zw, zU⟩
def zj7 : List (Nat × zE) := [(2, ([0, 1, 7, 8], [], []))]
def znO : List ResultVar := [.tmp 4]
noncomputable def zeP := Lq zsD zj7 zrC znO
theorem zHU : zq Tryz.prog zsD := zo tab mix ⟨⟨Tryz.call90, zwN⟩, trivial⟩
noncomputable def UY (x0 x1 : Int) (x2 : List Int) (x3 : List (Nat → Int)) : AS := ⟨[(0, .a (.sl 0)), (1, .a (.clo 90 [.ptr 1 [] (0)])), (7, .a (.v (.int .i64 x0))), (8, .a (.v (.int .i64 x1)))], [(0, some ⟨false, .arr (.one (.i .u8)) x2⟩), (1, some ⟨false, .box (.sl 2)⟩), (2, some ⟨false, .arr (.one (.fa 3 .u8)) x3⟩)], 3⟩
noncomputable def zi1 (r : Int) : List A := [.v (.int .i64 r)]
theorem zzT (x0 x1 : Int) (x2 : List Int) (x3 : List (Nat → Int)) (r : List A) (h : (cond (decide (x1 < x0)) (cond (inB x1 x2.length) (cond (zj1 (List.getD x2 (Int.toNat x1) 0) x3) (some [.v (.int .i64 x1)]) (zeP r 2 (UY x0 (wrap .i64 (x1 + 1)) x2 x3))) none) (some [.v (.int .i64 (-1))])) = some r) : zeP r 2 (UY x0 x1 x2 x3) = some r :=
 zn h (by kernel_rfl)
noncomputable def wS (x0 x1 : Int) (x2 : List Int) (x3 : List (Nat → Int)) : Option ((Int × Int × (List Int) × (List (Nat → Int))) ⊕ Int) := (cond (decide (x1 < x0)) (cond (inB x1 x2.length) (cond (zj1 (List.getD x2 (Int.toNat x1) 0) x3) (some (Sum.inr x1)) (some (Sum.inl (x0, (wrap .i64 (x1 + 1)), x2, x3)))) none) (some (Sum.inr (-1))))
noncomputable def zdO (x : Int × Int × (List Int) × (List (Nat → Int))) : Option Int := zI (fun x => wS x.1 x.2.1 x.2.2.1 x.2.2.2) FU x
noncomputable def zOv (r : List A) (x : Int × Int × (List Int) × (List (Nat → Int))) : Prop := zeP r 2 (UY x.1 x.2.1 x.2.2.1 x.2.2.2) = some r
noncomputable def zOc (r : List A) : Int → Prop := fun v => r = zi1 v
theorem zI9 (r : List A) : ∀ x, sem (zOc r) (zdO x) → zOv r x :=
 fun x => zi (step := fun x => wS x.1 x.2.1 x.2.2.1 x.2.2.2) (fun x h => by
  unfold wS at h
  exact zzT x.1 x.2.1 x.2.2.1 x.2.2.2 r ((za h (fun h => (za h (fun h => (za h (fun h => zb h fun q => zj q) (fun h => zb h fun q => q))) (fun h => zf h))) (fun h => zb h fun q => zj q)))) FU x
noncomputable def ze2 (a0 : List Int) (a1 : List (Nat → Int)) : Option Int := (zdO ((a0.length : Int), 0, a0, a1))
theorem zKs (a0 : List Int) (a1 : List (Nat → Int)) (r : List A) : Tq zsD zj7 zrC znO r [.lst (.one (.i .u8)) a0, .clo 90 [.ref (.lst (.one (.fa 3 .u8)) a1)]] = (zeP r 2 (UY (a0.length : Int) 0 a0 a1)) := by kernel_rfl
theorem zQc (a0 : List Int) (a1 : List (Nat → Int)) (v : Int) (h : ze2 a0 a1 = some v) : (zeP (zi1 v) 2 (UY (a0.length : Int) 0 a0 a1)) = some (zi1 v) := by
 replace h : sem (fun w => zi1 v = zi1 w) (ze2 a0 a1) := ⟨v, h, rfl⟩
 unfold ze2 at h
 exact zI9 (zi1 v) _ h
noncomputable def zN7 : List A → ze
 | [.lst (.one (.i .u8)) a0, .clo 90 [.ref (.lst (.one (.fa 3 .u8)) a1)]] => ⟨Int, ze2 a0 a1, fun r => .one (.v (.int .i64 r))⟩
 | _ => ze.fail
theorem ztn : zC Tryz.prog 123 zN7 := by
 refine good zHU zj7 zrC znO 2 Tryz.func123 fun rs => ?_
 unfold zN7
 split
 ·rename_i a0 a1; intro v h; exact ⟨rfl, zi1 v, rfl, (zKs a0 a1 _).trans (zQc a0 a1 v h)⟩
 ·intro v h; cases h
noncomputable def zC7 := zu Tryz.f89
noncomputable def zEz : Ctx := ⟨TT, zr [(123, zN7)], zw, zU⟩
def zzG : List (Nat × zE) := []
def zxo : List ResultVar := [.tmp 4]
theorem zFx : zq Tryz.prog zEz := zo tab mix ⟨⟨Tryz.call123, ztn⟩, trivial⟩
noncomputable def zk0 (a0 : List Int) (a1 : List (Nat → Int)) : Option Bool := (Option.bind (ze2 a0 a1) fun r1 => (some (decide (r1 ≥ 0))))
theorem zIa (a0 : List Int) (a1 : List (Nat → Int)) (r : List A) : Tq zEz zzG zC7 zxo r [.lst (.one (.i .u8)) a0, .clo 90 [.ref (.lst (.one (.fa 3 .u8)) a1)]] = (Option.bind (ze2 a0 a1) fun r1 => (some [.v (.bool (decide (r1 ≥ 0)))])) := by kernel_rfl
noncomputable def zRE (r : Bool) : List A := [.v (.bool r)]
theorem zRY (a0 : List Int) (a1 : List (Nat → Int)) (v : Bool) (h : zk0 a0 a1 = some v) : (Option.bind (ze2 a0 a1) fun r1 => (some [.v (.bool (decide (r1 ≥ 0)))])) = some (zRE v) := by
 refine Eq.trans (b := Option.map zRE (zk0 a0 a1)) ?_ (by rw [h]; rfl)
 unfold zk0
 exact (zV fun _ => rfl)
noncomputable def zTX : List A → ze
 | [.lst (.one (.i .u8)) a0, .clo 90 [.ref (.lst (.one (.fa 3 .u8)) a1)]] => ⟨Bool, zk0 a0 a1, fun r => .one (.v (.bool r))⟩
 | _ => ze.fail
theorem zyx : zC Tryz.prog 89 zTX := by
 refine good zFx zzG zC7 zxo 2 Tryz.func89 fun rs => ?_
 unfold zTX
 split
 ·rename_i a0 a1; intro v h; exact ⟨rfl, zRE v, rfl, (zIa a0 a1 _).trans (zRY a0 a1 v h)⟩
 ·intro v h; cases h
end Go.RR
namespace Go.RR
open Go Go.Proofs
open Go.IntKind (wrap)
def zrE (P : Program) (f : Nat) (rs : List A) (C : ze) : Prop :=
 ∀ r, C.c = some r → ∀ w vs, JJ P w → vz w rs vs → Calls P f vs.toArray w fun e w' => ∃ v, e = .returned v ∧ zQ9 w w' (C.res r) v ∧ RowKit.Below w.heap.size w w'
theorem zoA {P : Program} {f : Nat} {Φ : List A → ze} (h : ∀ rs, zrE P f rs (Φ rs)) : zC P f Φ := fun rs r e w vs hJ hv => h rs r e w vs hJ hv
theorem zLb {w w' : World} {x v : Value} (h : ∀ H, WfA H (.v x)) (hv : v = x) : zQ9 w w' (.one (.v x)) v := by
 subst hv
 refine ⟨rfl, fun i a v h1 h2 => ?_, fun i j u v hij h1 h2 => ?_⟩
 ·cases i with
  | zero => cases h1; cases h2; exact ⟨h, rfl⟩
  | succ i => cases h1
 ·cases i with
  | succ i => cases h1
  | zero => cases j with
   | zero => exact absurd rfl hij
   | succ j => cases h2
theorem ztp {w w' : World} {e : ET} {l : List e.den} {cs : List Value} (h : ZW w (.lst e l) cs) (hb : RowKit.Below w.heap.size w w') : ZW w' (.lst e l) cs := by
 obtain ⟨xs, ao, cap, h1, h2, h3, h4⟩ := h
 refine ⟨xs, ao, cap, h1, h2, h3.imp fun k l v hv => hv.keep hb.size fun g hg hn => ⟨hb.block g hg, hn⟩, fun hne => ?_⟩
 obtain ⟨g, o, h5, h6, h7⟩ := h4 hne
 exact ⟨g, o, h5, Nat.lt_of_lt_of_le h6 hb.size, h7.keep (hb.block g h6)⟩
theorem zdn (w : World) (o : Obj) : (w.alloc o).heap.size = w.heap.size + 1 := by
 show (w.heap.push _).size = _
 simp
theorem zv1 (w : World) (o : Obj) : (w.alloc o).heap[w.heap.size]? = some o := by
 show (w.heap.push _)[w.heap.size]? = _
 simp
theorem zS1 {w w' : World} {x v : Value} (h : zQ9 w w' (.one (.v x)) v) : v = x := (h.2.1 0 _ _ rfl rfl).2
theorem zCn {I : Inn} (k : IntKind) : ∀ r : List Int, zN I (.one (.i k)) r (r.map (Value.int k))
 | [] => rfl
 | x :: r => ⟨[.int k x], _, rfl, rfl, zCn k r⟩
noncomputable def zkM (a0 a1 : Int) (a2 : Nat → Int) (a3 : List (Nat → Int)) : Option Bool := Option.map (fun b => !b) (zk0 ((List.range 144).map a2) a3)
noncomputable def zQA : List A → ze
 | [.rc [.v (.int .i8 a0), .v (.int .i8 a1), .fa 144 .u8 a2], .lst (.one (.fa 3 .u8)) a3] => ⟨Bool, zkM a0 a1 a2 a3, fun r => .one (.v (.bool r))⟩
 | _ => ze.fail
theorem znS (a0 a1 : Int) (L : List Int) (hL : L.length = 144) (a3 : List (Nat → Int)) (b : Bool) (h : zk0 L a3 = some b) (w : World) (u : Value) (hu : ZW w (.lst (.one (.fa 3 .u8)) a3) [u]) :
  Calls Tryz.prog 44 #[.agg ([Value.int .i8 a0, .int .i8 a1] ++ L.map (Value.int .u8)).toArray, u] w fun e w' => e = .returned (.bool (!b)) ∧ RowKit.Below w.heap.size w w' := by
 have hc : Calls Tryz.prog 89 #[.slice (some ⟨w.heap.size, 2, none⟩) 144 144, .func (.func 90) #[] #[.pointer (some ⟨w.heap.size + 1, 0, none⟩)]] ((w.alloc (.cells ([Value.int .i8 a0, .int .i8 a1] ++ L.map (Value.int .u8)).toArray 27)).alloc (.cells #[u] 41)) fun e w' => e = .returned (.bool b) ∧ RowKit.Below w.heap.size w w' := by
  generalize ho1 : Obj.cells ([Value.int .i8 a0, .int .i8 a1] ++ L.map (Value.int .u8)).toArray 27 = o1
  generalize ho2 : Obj.cells #[u] 41 = o2
  have hb : RowKit.Below w.heap.size w ((w.alloc o1).alloc o2) := ((RowKit.Below.refl _ w).alloc (Nat.le_refl _) _).alloc (by rw [zdn]; omega) _
  have s1 := zdn w o1
  have s2 := zdn (w.alloc o1) o2
  have h1 : ((w.alloc o1).alloc o2).heap[w.heap.size]? = some o1 := by
   rw [RowKit.Below.heap_alloc _ _ _ (by omega)]; exact zv1 w o1
  have h2 : ((w.alloc o1).alloc o2).heap[w.heap.size + 1]? = some o2 := by
   have := zv1 (w.alloc o1) o2
   rwa [s1] at this
  subst ho1
  have l1 := YZ.of_heap (n := 146) h1 rfl
  refine (zyx [.lst (.one (.i .u8)) L, .clo 90 [.ref (.lst (.one (.fa 3 .u8)) a3)]] b h _ [_, _] trivial ⟨_, _, rfl, ⟨L.map (Value.int .u8), some ⟨w.heap.size, 2, none⟩, 144, congrArg (fun n => [Value.slice _ n 144]) hL.symm, Nat.le_of_eq hL, zCn .u8 L, fun _ => ⟨w.heap.size, 2, rfl, by omega, fun j v hv => ?_⟩⟩, _, [], rfl, ⟨rfl, [.pointer (some ⟨w.heap.size + 1, 0, none⟩)], rfl, [_], [], rfl, ⟨w.heap.size + 1, 0, [u], rfl, by omega, ztp hu hb, ?_⟩, rfl⟩, rfl⟩).mono ?_
  ·have := l1 (2 + j) v (by
    have hj : j < 144 := by have := (List.getElem?_eq_some_iff.1 hv).1; rw [List.length_map, hL] at this; exact this
    rw [List.getElem?_take, if_pos (by omega)]
    show ([Value.int .i8 a0, .int .i8 a1] ++ L.map (Value.int .u8))[2 + j]? = some v
    rw [List.getElem?_append_right (by simp)]
    rw [show 2 + j - [Value.int .i8 a0, .int .i8 a1].length = j by simp]
    exact hv)
   simpa using this
  ·subst ho2
   exact YZ.of_heap (n := 1) h2 rfl
  ·rintro e w' ⟨z, rfl, hz, hb2⟩
   rw [zS1 hz]
   exact ⟨rfl, hb.trans (hb2.mono hb.size)⟩
 obtain ⟨_, ao, cap, hq, _⟩ := hu
 obtain ⟨rfl, _⟩ := List.cons.inj hq
 go_enter Tryz.func44, Tryz.ntmps44
 go_wp2_with (go_at_call 89; refine hc.mono ?_; rintro e w' ⟨rfl, hb⟩)
 go_ret
 exact ⟨rfl, hb⟩
theorem zL5 (a0 a1 : Int) (a2 : Nat → Int) (a3 : List (Nat → Int)) : zrE Tryz.prog 44 [.rc [.v (.int .i8 a0), .v (.int .i8 a1), .fa 144 .u8 a2], .lst (.one (.fa 3 .u8)) a3] ⟨Bool, zkM a0 a1 a2 a3, fun r => .one (.v (.bool r))⟩ := by
 intro r hr w vs hJ hv
 have hr : zkM a0 a1 a2 a3 = some r := hr
 unfold zkM at hr
 obtain ⟨b, hb, rfl⟩ := Option.map_eq_some_iff.1 hr
 obtain ⟨v, us, rfl, ⟨cs, rfl, c1, d1, rfl, ⟨rfl, _⟩, c2, d2, rfl, ⟨rfl, _⟩, c3, d3, rfl, h3, rfl⟩, u, us2, rfl, hu, rfl⟩ := hv
 have h3 : c3 = (List.range 144).map fun j => .int .u8 (a2 j) := h3
 subst h3
 have := znS a0 a1 ((List.range 144).map a2) (by simp) a3 b hb w u hu
 rw [List.map_map] at this
 refine (show Calls Tryz.prog 44 _ w _ from ?_)
 refine Calls.mono this ?_
 rintro e w' ⟨rfl, hbl⟩
 exact ⟨_, rfl, zLb (fun _ => rfl) rfl, hbl⟩
theorem zvP : zC Tryz.prog 44 zQA := by
 refine zoA fun rs => ?_
 unfold zQA
 split
 ·exact zL5 _ _ _ _
 ·intro r h; cases h
end Go.RR
namespace Go.RR
open Go Go.Proofs
open Go.IntKind (wrap)
noncomputable def zsp := zu Tryz.f13
noncomputable def zrR : Ctx := ⟨TT, zr [(31, zDP), (38, zBV), (39, zB0), (40, zC5), (44, zQA), (45, zDb)], zw, zU⟩
def zkg : List (Nat × zE) := [(9, ([2, 3, 4, 8, 45, 46, 47], [], []))]
def ziP : List ResultVar := [.tmp 6, .tmp 7]
noncomputable def zBB := Lq zrR zkg zsp ziP
theorem zFI : zq Tryz.prog zrR := zo tab mix ⟨⟨Tryz.call31, zh1⟩, ⟨Tryz.call38, zhO⟩, ⟨Tryz.call39, zht⟩, ⟨Tryz.call40, zgZ⟩, ⟨Tryz.call44, zvP⟩, ⟨Tryz.call45, zg4⟩, trivial⟩
noncomputable def zwm (x0 x1 x2 : Int) (x3 : List (Nat → Int)) (x4 x5 : Int) (x6 : Nat → Nat → Int) (x7 x8 : Int) (x9 : Nat → Int) (x10 : List Int) : AS := ⟨[(2, .a (.sl 0)), (3, .a (.ptr 1 [] (0))), (4, .a (.ptr 2 [] (0))), (8, .a (.v (.int .i64 x0))), (45, .a (.sl 3)), (46, .a (.v (.int .i64 x1))), (47, .a (.v (.int .i64 x2)))], [(0, some ⟨false, .arr (.one (.fa 3 .u8)) x3⟩), (1, some ⟨true, .box (.rc [.v (.int .i8 x4), .v (.int .i8 x5), .fa2 144 3 .u8 x6])⟩), (2, some ⟨true, .box (.rc [.v (.int .i8 x7), .v (.int .i8 x8), .fa 144 .u8 x9])⟩), (3, some ⟨true, .arr (.one (.i .i64)) x10⟩)], 4⟩
abbrev zMB := (Int × Int)
noncomputable def zcn (r : Int × Int) : List A := [.v (.int .i64 r.1), .v (.int .i64 r.2)]
abbrev za9 := (Int × Int × Int × (List (Nat → Int)) × Int × Int × (Nat → Nat → Int) × Int × Int × (Nat → Int) × (List Int))
abbrev zsG := zMB
section
variable {R R' : Type} {S : R → Prop} {r : R'} (E : zMB → Option R) (E' : zMB → Option R') (G9 : za9 → Option R) (G9' : za9 → Option R')
noncomputable def uA (x0 x1 x2 : Int) (x3 : List (Nat → Int)) (x4 x5 : Int) (x6 : Nat → Nat → Int) (x7 x8 : Int) (x9 : Nat → Int) (x10 : List Int) : Option R := (cond (decide (x2 < x1)) (cond (inB x2 x10.length) (cond (inB (List.getD x10 (Int.toNat x2) 0) 144) (cond (decide ((x9 (Int.toNat (List.getD x10 (Int.toNat x2) 0))) > 0)) (cond (inB (List.getD x10 (Int.toNat x2) 0) 144) (cond (inB (wrap .u8 ((x9 (Int.toNat (List.getD x10 (Int.toNat x2) 0))) - 1)) x3.length) (Option.bind (Uh (x6 (Int.toNat (List.getD x10 (Int.toNat x2) 0))) (List.getD x3 (Int.toNat (wrap .u8 ((x9 (Int.toNat (List.getD x10 (Int.toNat x2) 0))) - 1))) zF)) fun r5 => (G9 ((wrap .i64 (x0 + r5)), x1, (wrap .i64 (x2 + 1)), x3, x4, x5, x6, x7, x8, x9, x10))) none) none) (G9 (x0, x1, (wrap .i64 (x2 + 1)), x3, x4, x5, x6, x7, x8, x9, x10))) none) none) (E (x0, 0)))
theorem zws (x0 x1 x2 : Int) (x3 : List (Nat → Int)) (x4 x5 : Int) (x6 : Nat → Nat → Int) (x7 x8 : Int) (x9 : Nat → Int) (x10 : List Int) (h : sem S (uA E G9 x0 x1 x2 x3 x4 x5 x6 x7 x8 x9 x10)) (hE : zJ S r E E') (h9 : zJ S r G9 G9') : uA E' G9' x0 x1 x2 x3 x4 x5 x6 x7 x8 x9 x10 = some r := by
 revert h
 unfold uA
 repeat' first | refine zy ?_ ?_ | refine zA fun _ => ?_ | exact zz | exact hE _ | exact h9 _ | refine zp (fun _ => ?_) (fun _ => ?_)
noncomputable def zma (a0 a1 : Int) (a2 : Nat → Nat → Int) (a3 a4 : Int) (a5 : Nat → Int) (a6 : List (Nat → Int)) : Option R := (Option.bind (zhw a0 a1 a2) fun r1 => (cond (!r1) (E (0, 1)) (cond (!(Vx a3 a4 a5)) (E (0, 1)) (Option.bind (zhm a6) fun r2 => (cond (!r2) (E (0, 1)) (cond (a0 != a3) (E (0, 4)) (cond (a1 != a4) (E (0, 4)) (Option.bind (zkM a3 a4 a5 a6) fun r3 => (cond (!r3) (E (0, 2)) (Option.bind (zhT a0 a1 a2) fun r4 => (G9 (0, (r4.length : Int), 0, a6, a0, a1, a2, a3, a4, a5, r4))))))))))))
theorem zKn (a0 a1 : Int) (a2 : Nat → Nat → Int) (a3 a4 : Int) (a5 : Nat → Int) (a6 : List (Nat → Int)) (h : sem S (zma E G9 a0 a1 a2 a3 a4 a5 a6)) (hE : zJ S r E E') (h9 : zJ S r G9 G9') : zma E' G9' a0 a1 a2 a3 a4 a5 a6 = some r := by
 revert h
 unfold zma
 repeat' first | refine zy ?_ ?_ | refine zA fun _ => ?_ | exact zz | exact hE _ | exact h9 _ | refine zp (fun _ => ?_) (fun _ => ?_)
end
noncomputable def zfs (r : List A) (x : za9) : Option (List A) := zBB r 9 (zwm x.1 x.2.1 x.2.2.1 x.2.2.2.1 x.2.2.2.2.1 x.2.2.2.2.2.1 x.2.2.2.2.2.2.1 x.2.2.2.2.2.2.2.1 x.2.2.2.2.2.2.2.2.1 x.2.2.2.2.2.2.2.2.2.1 x.2.2.2.2.2.2.2.2.2.2)
theorem zwC (x0 x1 x2 : Int) (x3 : List (Nat → Int)) (x4 x5 : Int) (x6 : Nat → Nat → Int) (x7 x8 : Int) (x9 : Nat → Int) (x10 : List Int) (r : List A) (h : uA (fun v => some (zcn v)) (zfs r) x0 x1 x2 x3 x4 x5 x6 x7 x8 x9 x10 = some r) : zBB r 9 (zwm x0 x1 x2 x3 x4 x5 x6 x7 x8 x9 x10) = some r :=
 zn h (by kernel_rfl)
noncomputable def Ww (x0 x1 x2 : Int) (x3 : List (Nat → Int)) (x4 x5 : Int) (x6 : Nat → Nat → Int) (x7 x8 : Int) (x9 : Nat → Int) (x10 : List Int) : Option (za9 ⊕ zsG) := uA (fun v => some (Sum.inr v)) (fun x => some (Sum.inl x)) x0 x1 x2 x3 x4 x5 x6 x7 x8 x9 x10
noncomputable def zcH (x : za9) : Option zsG := zI (fun x => Ww x.1 x.2.1 x.2.2.1 x.2.2.2.1 x.2.2.2.2.1 x.2.2.2.2.2.1 x.2.2.2.2.2.2.1 x.2.2.2.2.2.2.2.1 x.2.2.2.2.2.2.2.2.1 x.2.2.2.2.2.2.2.2.2.1 x.2.2.2.2.2.2.2.2.2.2) FU x
noncomputable def zv6 (r : List A) (x : za9) : Prop := zfs r x = some r
noncomputable def zs2 (r : List A) : zsG → Prop := fun v => r = zcn v
theorem zHP (r : List A) : ∀ x, sem (zs2 r) (zcH x) → zv6 r x :=
 fun x => zi (G := zv6 r) (E := zs2 r) (step := fun x => Ww x.1 x.2.1 x.2.2.1 x.2.2.2.1 x.2.2.2.2.1 x.2.2.2.2.2.1 x.2.2.2.2.2.2.1 x.2.2.2.2.2.2.2.1 x.2.2.2.2.2.2.2.2.1 x.2.2.2.2.2.2.2.2.2.1 x.2.2.2.2.2.2.2.2.2.2) (fun x h => zwC x.1 x.2.1 x.2.2.1 x.2.2.2.1 x.2.2.2.2.1 x.2.2.2.2.2.1 x.2.2.2.2.2.2.1 x.2.2.2.2.2.2.2.1 x.2.2.2.2.2.2.2.2.1 x.2.2.2.2.2.2.2.2.2.1 x.2.2.2.2.2.2.2.2.2.2 r (zws _ _ _ _ x.1 x.2.1 x.2.2.1 x.2.2.2.1 x.2.2.2.2.1 x.2.2.2.2.2.1 x.2.2.2.2.2.2.1 x.2.2.2.2.2.2.2.1 x.2.2.2.2.2.2.2.2.1 x.2.2.2.2.2.2.2.2.2.1 x.2.2.2.2.2.2.2.2.2.2 h (fun _ h => zb h fun q => zj q) (fun _ h => zb h fun q => q))) FU x
noncomputable def zj9 (a0 a1 : Int) (a2 : Nat → Nat → Int) (a3 a4 : Int) (a5 : Nat → Int) (a6 : List (Nat → Int)) : Option (Int × Int) := zma some zcH a0 a1 a2 a3 a4 a5 a6
theorem zGl (a0 a1 : Int) (a2 : Nat → Nat → Int) (a3 a4 : Int) (a5 : Nat → Int) (a6 : List (Nat → Int)) (r : List A) : Tq zrR zkg zsp ziP r [.rc [.v (.int .i8 a0), .v (.int .i8 a1), .fa2 144 3 .u8 a2], .rc [.v (.int .i8 a3), .v (.int .i8 a4), .fa 144 .u8 a5], .lst (.one (.fa 3 .u8)) a6] = zma (fun v => some (zcn v)) (zfs r) a0 a1 a2 a3 a4 a5 a6 := by kernel_rfl
theorem zPI (a0 a1 : Int) (a2 : Nat → Nat → Int) (a3 a4 : Int) (a5 : Nat → Int) (a6 : List (Nat → Int)) (v : Int × Int) (h : zj9 a0 a1 a2 a3 a4 a5 a6 = some v) : zma (fun v => some (zcn v)) (zfs (zcn v)) a0 a1 a2 a3 a4 a5 a6 = some (zcn v) :=
 zKn _ _ _ _ a0 a1 a2 a3 a4 a5 a6 (show sem (fun w => zcn v = zcn w) (zj9 a0 a1 a2 a3 a4 a5 a6) from ⟨v, h, rfl⟩) (fun _ h => zb h fun q => zj q) (zHP (zcn v))
noncomputable def zPS : List A → ze
 | [.rc [.v (.int .i8 a0), .v (.int .i8 a1), .fa2 144 3 .u8 a2], .rc [.v (.int .i8 a3), .v (.int .i8 a4), .fa 144 .u8 a5], .lst (.one (.fa 3 .u8)) a6] => ⟨(Int × Int), zj9 a0 a1 a2 a3 a4 a5 a6, fun r => .tup [.v (.int .i64 r.1), .v (.int .i64 r.2)]⟩
 | _ => ze.fail
theorem zvc : zC Tryz.prog 13 zPS := by
 refine good zFI zkg zsp ziP 3 Tryz.func13 fun rs => ?_
 unfold zPS
 split
 ·rename_i a0 a1 a2 a3 a4 a5 a6; intro v h; exact ⟨rfl, zcn v, rfl, (zGl a0 a1 a2 a3 a4 a5 a6 _).trans (zPI a0 a1 a2 a3 a4 a5 a6 v h)⟩
 ·intro v h; cases h
end Go.RR
