/- The plain law of FnTop. -/
import Derived.Test.YtbmaolhjplapoaaGreatEd
import Derived.Test.YtbmaolhjplapoaaGreatVz
set_option linter.unusedVariables false
set_option linter.unusedSimpArgs false
set_option linter.unusedSectionVars false
namespace Go.RR
open Go
theorem zHl : ((List.range 7).all fun w => (List.range 7).all fun h => (cells w h).length == w * h) = true := by decide +kernel
theorem zzU {w h : Nat} (hw : w ≤ 6) (hh : h ≤ 6) : (cells w h).length = w * h := by
 have h1 := List.all_eq_true.1 zHl w (List.mem_range.2 (by omega))
 have h2 := List.all_eq_true.1 h1 h (List.mem_range.2 (by omega))
 exact beq_iff_eq.1 h2
section
variable {w h : Nat} (hw : w ≤ 12) (hh : h ≤ 12) {f : Nat → Int}
include hw hh
theorem zKr {ss : List Nat} (hP : zD2 w h f ss 144) : ((ss.map (zm8 w h f)).map List.length).sum = (cells w h).length := by
 have e : ((ss.map (zm8 w h f)).map List.length) = ss.map fun s => (zyR w h f s).length := by
  rw [List.map_map]
  apply List.map_congr_left
  intro s _
  exact y6 _
 rw [e, ← List.length_flatMap]
 refine List.Perm.length_eq ((List.perm_ext_iff_of_nodup ?_ (Yi _)).2 fun k => ?_)
 ·unfold List.Nodup
  rw [List.pairwise_flatMap]
  refine ⟨fun s _ => Yi _, ?_⟩
  refine List.Pairwise.imp_of_mem ?_ hP.apart
  intro s t hs ht hst x hx y hy e
  subst e
  exact hst x ((Vv hw hh (hP.cell s hs)).1 hx) ((Vv hw hh (hP.cell t ht)).1 hy)
 ·rw [List.mem_flatMap]
  show _ ↔ k ∈ cells w h
  rw [YM]
  constructor
  ·rintro ⟨s, hs, hk⟩
   exact ⟨zDq hw hh (hP.cell s hs) hk, (zbs hw hh (hP.cell s hs)).1.cell k ((Vv hw hh (hP.cell s hs)).1 hk)⟩
  ·rintro ⟨h1, h2⟩
   obtain ⟨s, hs, hk⟩ := hP.all k h1 h2
   exact ⟨s, hs, (Vv hw hh (hP.cell s hs)).2 hk⟩
end
theorem zxd {F : List (List Int)} (hl : F.length ≤ 1000) (hr : ∀ r ∈ F, r.length ≤ 1000) : zky F F = some true := by
 have one : ∀ r : List Int, r.length ≤ 1000 → zhP r r = some true := fun r hr => by
  unfold zhP
  have : ((r.length : Int) != (r.length : Int)) = false := by simp
  rw [this, cond_false]
  unfold zcG
  have h := XV (step := fun x => wa x.1 x.2.1 x.2.2) r.length (fun i => ((i : Int), r, r)) (fun i => true) true false (by omega) ?_ ?_
  ·exact h.trans (by simp)
  ·intro i hi
   show wa i r r = _
   unfold wa
   rw [zD hi, zg hi, zd, zH (by omega)]
   have : (r.getD i 0 != r.getD i 0) = false := by simp
   rw [this]; rfl
  ·show wa (r.length : Nat) r r = _
   unfold wa
   rw [zS, cond_false]
 unfold zky
 have : ((F.length : Int) != (F.length : Int)) = false := by simp
 rw [this, cond_false]
 unfold zdL
 have h := XV (step := fun x => we x.1 x.2.1 x.2.2) F.length (fun i => ((i : Int), F, F)) (fun i => true) true false (by omega) ?_ ?_
 ·exact h.trans (by simp)
 ·intro i hi
  show we i F F = _
  unfold we
  rw [zD hi, zg hi, zd, zH (by omega), one _ (hr _ (zR (d := ([] : List Int)) hi))]
  rfl
 ·show we (F.length : Nat) F F = _
  unfold we
  rw [zS, cond_false]
theorem zFT (n : Nat) (f : Nat → Int) : W6 n f f = true := by
 unfold W6
 rw [List.all_eq_true]
 intro j _
 exact beq_self_eq_true _
theorem zrG {l : List Int} (hl : Byt l) : ∃ (w h : Nat) (f : Nat → Int), zmW l = some ((w : Int), (h : Int), f) ∧ ((1 ≤ w ∧ w ≤ 6) ∧ (1 ≤ h ∧ h ≤ 6)) ∧ Drw (w : Int) (h : Int) f := by
 obtain ⟨w, h, f, m, sd, e1, hs, hd, _, hm⟩ := zRp (n := 0) (sd := (zx l).2) hl (by omega)
 obtain ⟨w, rfl⟩ := Int.eq_ofNat_of_zero_le (show 0 ≤ w by omega)
 obtain ⟨h, rfl⟩ := Int.eq_ofNat_of_zero_le (show 0 ≤ h by omega)
 refine ⟨w, h, f, ?_, by omega, hd⟩
 unfold zmW
 rw [zpX, e1]; rfl
section
variable {w h : Nat} {f : Nat → Int} {a0 a1 : List Int} {F : List (List Int)}
def zlV (f : Nat → Int) (F : List (List Int)) : Prop := F.length ≤ 144 ∧ ∀ r ∈ F, r.length ≤ 144 ∧ ∀ x ∈ r, 0 ≤ x ∧ x < 144 ∧ f x.toNat = f (r.getD 0 0).toNat
def V5 (F : List (List Int)) (i : Nat) : Nat := ((F.take i).map List.length).sum
theorem zpQ {i : Nat} (hi : i < F.length) : V5 F (i + 1) = V5 F i + (F.getD i []).length := by
 unfold V5
 rw [List.take_add_one, List.getElem?_eq_getElem hi, List.map_append, List.sum_append, List.getD_eq_getElem?_getD, List.getElem?_eq_getElem hi]
 simp
theorem zCO (hF : zlV f F) : ∀ i, i ≤ F.length → V5 F i ≤ 144 * i
 | 0, _ => by simp [V5]
 | i + 1, hi => by
  have h1 := zCO hF i (by omega)
  have h2 := (hF.2 _ (zR (d := ([] : List Int)) (show i < F.length by omega))).1
  rw [zpQ (by omega)]; omega
theorem zSW (hF : zlV f F) {i : Nat} (hi : i < F.length) : vl (0, 0, ((V5 F i : Nat) : Int), (i : Int), 0, a0, a1, (w : Int), (h : Int), f, F, F) = some (.inl (0, 0, ((V5 F (i + 1) : Nat) : Int), ((i + 1 : Nat) : Int), a0, a1, (w : Int), (h : Int), f, F, F)) := by
 obtain ⟨r1, r2⟩ := hF.2 _ (zR (d := ([] : List Int)) hi)
 have hc := zCO hF i (by omega)
 have hF1 := hF.1
 unfold vl
 refine yp (step := fun x => XD x.1 x.2.1 x.2.2.1 x.2.2.2.1 x.2.2.2.2.1 x.2.2.2.2.2.1 x.2.2.2.2.2.2.1 x.2.2.2.2.2.2.2.1 x.2.2.2.2.2.2.2.2.1 x.2.2.2.2.2.2.2.2.2.1 x.2.2.2.2.2.2.2.2.2.2.1 x.2.2.2.2.2.2.2.2.2.2.2) (τ := {u : Unit // True}) (F.getD i []).length
  (fun k _ => ((0 : Int), (0 : Int), ((V5 F i + k : Nat) : Int), (i : Int), (k : Int), a0, a1, (w : Int), (h : Int), f, F, F)) (fun s _ => s) (.inl (0, 0, ((V5 F (i + 1) : Nat) : Int), ((i + 1 : Nat) : Int), a0, a1, (w : Int), (h : Int), f, F, F)) ⟨(), trivial⟩ (by omega) (fun k _ hk => ?_) ?_
 ·show XD 0 0 ((V5 F i + k : Nat) : Int) i k a0 a1 w h f F F = _
  obtain ⟨x1, x2, x3⟩ := r2 _ (zR (d := (0 : Int)) hk)
  obtain ⟨y1, y2, y3⟩ := r2 _ (zR (d := (0 : Int)) (show 0 < (F.getD i []).length by omega))
  have inz : ∀ z : Int, 0 ≤ z → z < 144 → inB z 144 = true := fun z h1 h2 => by
   unfold inB
   simp only [Bool.and_eq_true, decide_eq_true_eq]; omega
  unfold XD WV
  rw [zg hi, zd, zD hk, zg hk, zd, inz _ x1 x2, inz _ y1 y2, show inB 0 (List.length (F.getD i [])) = true from zg (i := 0) (by omega), x3, zH (i := V5 F i + k) (by omega), zH (i := k) (by omega)]
  simp [Nat.add_assoc]
 ·show XD 0 0 ((V5 F i + (F.getD i []).length : Nat) : Int) i ((F.getD i []).length : Nat) a0 a1 w h f F F = _
  unfold XD WV
  rw [zg hi, zd, zS, zH (i := i) (by omega), zpQ hi]
  rfl
theorem zRm (hF : zlV f F) (hend : wm 0 0 ((V5 F F.length : Nat) : Int) ((F.length : Nat) : Int) a0 a1 ((w : Nat) : Int) ((h : Nat) : Int) f F F = some (.inr true)) : ug (0, 0, 0, 0, a0, a1, (w : Int), (h : Int), f, F, F) = some true := by
 have hF1 := hF.1
 unfold ug
 refine yp (step := fun x => wm x.1 x.2.1 x.2.2.1 x.2.2.2.1 x.2.2.2.2.1 x.2.2.2.2.2.1 x.2.2.2.2.2.2.1 x.2.2.2.2.2.2.2.1 x.2.2.2.2.2.2.2.2.1 x.2.2.2.2.2.2.2.2.2.1 x.2.2.2.2.2.2.2.2.2.2) (τ := {u : Unit // True}) F.length
  (fun i _ => ((0 : Int), (0 : Int), ((V5 F i : Nat) : Int), (i : Int), a0, a1, (w : Int), (h : Int), f, F, F)) (fun s _ => s) true ⟨(), trivial⟩ (by omega) (fun i _ hi => ?_) hend
 show wm 0 0 ((V5 F i : Nat) : Int) i a0 a1 w h f F F = _
 unfold wm uy
 rw [zD hi, cond_true, zSW hF hi]
end
theorem zId {L : Int} {k : Nat} (hk : 1 ≤ k ∧ k ≤ 60) (hL : L ≤ 200) (h : ¬ L - 1 * ((k : Int) - 1) < (k : Int)) : zoT L 1 k = (zaa (L - 1 * ((k : Int) - 1)).toNat k, 0) ∧ OKR (zaa (L - 1 * ((k : Int) - 1)).toNat k) ∧ zgG (zaa (L - 1 * ((k : Int) - 1)).toNat k) 1 = L := by
 refine ⟨?_, zQF hk (by omega) h, zwK hk h⟩
 unfold zoT evR
 rw [if_neg h]; rfl
theorem zSZ {r : List Int} (h : ∀ x ∈ r, 1 ≤ x ∧ x ≤ 9) : ((r.length : Nat) : Int) ≤ r.sum ∧ r.sum ≤ 9 * ((r.length : Nat) : Int) := by
 induction r with
 | nil => simp
 | cons x r ih =>
  have h1 := h x (List.mem_cons_self ..)
  have h2 := ih fun y hy => h y (List.mem_cons_of_mem _ hy)
  rw [List.sum_cons, List.length_cons]
  omega
theorem zSN {w h : Nat} {f : Nat → Int} {a0 a1 : List Int} {F : List (List Int)} (hw : w ≤ 6) (hh : h ≤ 6) (hF : zlV f F) (hc : V5 F F.length = w * h) (h0 : Byt a0) (h1 : Byt a1) : wm 0 0 ((V5 F F.length : Nat) : Int) ((F.length : Nat) : Int) a0 a1 (w : Int) (h : Int) f F F = some (.inr true) := by
 have nn : ∀ x : Int, (x != x) = false := fun x => by simp
 have n0 : ((0 : Int) != 0) = false := rfl
 have hwh : w * h ≤ 36 := Nat.mul_le_mul hw hh
 have em : IntKind.wrap .i64 (IntKind.wrap .i64 (w : Int) * IntKind.wrap .i64 (h : Int)) = ((V5 F F.length : Nat) : Int) := by
  have e : (w : Int) * (h : Int) = ((w * h : Nat) : Int) := (Int.natCast_mul w h).symm
  rw [IntWalk.i64_in (w : Int) (by omega), IntWalk.i64_in (h : Int) (by omega), e, IntWalk.i64_in _ (by omega), hc]
 have esf := zxd (F := F) (by have := hF.1; omega) fun r hr => by have := (hF.2 r hr).1; omega
 obtain ⟨iw, ih, m, e5, hm⟩ := zAM h0
 obtain ⟨p, e6, hp, hpb⟩ := zqt h1
 have hpl := ((Zt p).1 hpb).2
 have e7 := zwQ hm hp hpb
 have e8 := zzu hm hp hpb
 have e9 := zt1 hm hp hpb (q := W5 iw ih m p) (fun k hk => by rw [zph hm hp hpb hk]; exact zry hm hp hpb k) (fun k _ hk => zO3 hm hp hpb hk)
 have e10 := zLD hm
 have e11 := zt1 hm hp hpb (q := UR iw ih) (fun k hk => by rw [zo0 hm hk]; omega) (fun k _ hk => zQU hk)
 have hle := zSX hm hp hpb
 obtain ⟨r, e12, hr9, hr1, hr6⟩ := zL4 h1
 have hrok := zS2 hr9 hr1 (by omega)
 have e13 := zro (S := 1) hrok (by omega)
 have hlen := zDj r 1
 have hsum := zSZ hr9
 have hk : 1 ≤ r.length ∧ r.length ≤ 60 := by omega
 have hL : 1 ≤ zgG r 1 ∧ zgG r 1 ≤ 200 := by omega
 have hev : ¬ zgG r 1 - 1 * (((r.length : Nat) : Int) - 1) < ((r.length : Nat) : Int) := by omega
 obtain ⟨v1, v2, v3⟩ := zId hk hL.2 hev
 have e14 := zve (S := 1) hk hL (by omega)
 have e15 := zvO (S := 1) hk hL (by omega)
 rw [v1] at e14 e15
 have e16 := ztF (S := 1) v2 (by omega)
 rw [v3] at e16
 have e17 := zSj (zaa (zgG r 1 - 1 * (((r.length : Nat) : Int) - 1)).toNat r.length) (by have := v2.l; omega)
 obtain ⟨l, e18, hl⟩ := zBk h0
 obtain ⟨ord, e21, ho, hol⟩ := zwh h1 hl.ok hl.valid
 have hv := zRn hl.ok hl.valid
 have hn := hv.len
 have hH : 1 ≤ 2 ∧ 2 ≤ 4 := by omega
 have hb := zP2 (H := 2) hv hH ho hol
 have hpo : zEd ((2 : Nat) : Int) l ord = (zI3 l 2 ord, 0) := by
  unfold zEd
  rw [hl.valid, zfS hH, ho, decide_eq_true hol, zd]
  rfl
 have e22 := zIK (h := ((2 : Nat) : Int)) (ord := ord) hl.ok (show l.length ≤ 100000000 by omega) (by omega)
 rw [hpo] at e22
 have e22 : zkl l 2 ord = some (zI3 l 2 ord, 0) := e22
 have e19 := zUg (h := ((2 : Nat) : Int)) (Bg := 20000) hl.ok (show l.length ≤ 100000000 by omega)
 have e20 : zhV l ((2 : Nat) : Int) 20000 = some (zeX l ((2 : Nat) : Int) 20000) := by
  unfold zhV
  rw [zUk hl.ok (by omega)]; rfl
 have hbp : zeX l ((2 : Nat) : Int) 20000 = vE l 2 20000 := by
  unfold zeX
  rw [hl.valid, zfS hH, show zK 20000 0 20000 = true from rfl, zd]; rfl
 have hv5 : (vE l 2 20000).1.length ≤ 1000000 := by
  have := zJv (h := ((2 : Nat) : Int)) (Bg := 20000) hl.ok
  rw [hbp] at this
  omega
 rw [hbp] at e19 e20
 have e19 : zkw l 2 20000 = some (vE l 2 20000) := e19
 have e20 : zhV l 2 20000 = some (vE l 2 20000) := e20
 have e23 : zgP l 2 (zI3 l 2 ord) = some (Xs l (zI3 l 2 ord), 0) := zBj hl.valid hv hH hb
 have e24 := zAK _ hv5
 unfold wm uy
 rw [zS, cond_false, n0, cond_false, esf]
 simp only [Option.bind, Bool.not_true, cond_false, em, nn]
 rw [e5]; dsimp only
 rw [e6]; dsimp only
 rw [e7]; dsimp only
 rw [e8]; dsimp only
 rw [e9]; dsimp only
 rw [e10]; dsimp only
 rw [e11]; dsimp only
 simp only [nn, beq_self_eq_true, zFT, Bool.and_self, Bool.not_true, cond_false]
 rw [decide_eq_false (show ¬ zi7 iw ih m p (UR iw ih) < zi7 iw ih m p (W5 iw ih m p) by omega), cond_false]
 rw [e12]; dsimp only
 rw [e13]; dsimp only
 rw [e14]; dsimp only
 rw [e15]; dsimp only
 rw [e16]; dsimp only
 simp only [nn, cond_false, e17, Bool.not_true]
 rw [e18]; dsimp only
 rw [e19]; dsimp only
 rw [e20]; dsimp only
 rw [e21]; dsimp only
 rw [e22]; dsimp only
 rw [e23]; dsimp only
 rw [e24]
 simp only [n0, nn, Bool.not_true, cond_false]
 by_cases hcB : (goB l 2 20000).2 = 2
 ·have hbv : (vE l 2 20000).2.2 = 7 := by
   unfold vE
   rw [decide_eq_true hcB]; rfl
  rw [hbv]
  rfl
 ·obtain ⟨b, g1, g2, g3, g4⟩ := zRO (Bg := 20000) hv hH ho hol hcB
  have hbv : vE l 2 20000 = (b, (goB l 2 20000).1.len, 0) := by
   unfold vE
   rw [decide_eq_false hcB, g1]; rfl
  have e25 : zax l 2 b = some true := zxQ hl.valid hv hH g2
  rw [hbv]
  dsimp only
  rw [e25, n0]
  simp only [cond_false, cond_true]
  rw [decide_eq_true g4]
theorem zTm {a0 : List Int} (hl0 : a0.length ≤ maxLen) (he0 : ∀ x ∈ a0, 0 ≤ x ∧ x ≤ 255) {a1 : List Int} (hl1 : a1.length ≤ maxLen) (he1 : ∀ x ∈ a1, 0 ≤ x ∧ x ≤ 255) : ztZ a0 a1 = some true := by
 unfold ztZ zmC zoH
 by_cases q0 : ((a0.length : Nat) : Int) > 3000
 ·rw [decide_eq_true q0]; rfl
 by_cases q1 : ((a1.length : Nat) : Int) > 3000
 ·rw [decide_eq_true q1, decide_eq_false q0]; rfl
 rw [decide_eq_false q0, decide_eq_false q1, cond_false, cond_false]
 have h0 : Byt a0 := ⟨by omega, he0⟩
 have h1 : Byt a1 := ⟨by omega, he1⟩
 obtain ⟨w, h, f, e1, ⟨hw, hh⟩, hd⟩ := zrG h0
 have hs : Vk (w : Int) (h : Int) f = true := ztS ⟨by omega, by omega⟩ hd
 have hi : Vx (w : Int) (h : Int) f = true := by rw [zsS (by omega) (by omega)]; exact hs
 have e2 : znD (w : Int) (h : Int) f = some ((fdA w h f).1, 0) := by
  unfold znD
  rw [hi, zAL (by omega) (by omega)]; rfl
 have e3 : zi0 (w : Int) (h : Int) f = some ((fdA w h f).1, 0) := by
  unfold zi0
  rw [hs, zBc (by omega) (by omega)]; rfl
 obtain ⟨ss, hP, hF⟩ := zPw (w := w) (h := h) (by omega) (by omega) (f := f)
 rw [e1]; dsimp only [Option.bind]
 rw [e2]; dsimp only
 rw [e3]; dsimp only
 rw [hF]
 have hR : zlV f (ss.map (zm8 w h f)) := by
  refine ⟨by rw [List.length_map]; exact hP.len, fun r hr => ?_⟩
  obtain ⟨s, hs, rfl⟩ := List.mem_map.1 hr
  have hc := hP.cell s hs
  have hrl : (zm8 w h f s).length ≤ 144 := by unfold zm8; rw [y6]; exact zOt w h f s
  refine ⟨hrl, fun x hx => ?_⟩
  have one : ∀ y, y ∈ zm8 w h f s → 0 ≤ y ∧ y < 144 ∧ f y.toNat = f s := fun y hy => by
   unfold zm8 at hy
   obtain ⟨k, hk, rfl⟩ := zB7.1 hy
   have := zDq (by omega) (by omega) hc hk
   exact ⟨by omega, by omega, zPf (by omega) (by omega) hc hk⟩
  obtain ⟨x1, x2, x3⟩ := one x hx
  obtain ⟨_, _, y3⟩ := one _ (zR (d := (0 : Int)) (List.length_pos_of_mem hx))
  exact ⟨x1, x2, x3.trans y3.symm⟩
 refine zRm hR (zSN hw.2 hh.2 hR ?_ h0 h1)
 unfold V5
 rw [List.take_length, zKr (by omega) (by omega) hP, zzU hw.2 hh.2]
end Go.RR
