/- Plain facts of tones, palettes and images that are drawn. No condition. -/
import Derived.Test.YtbmaolhjplapoaaGreatTc
import Derived.Test.YtbmaolhjplapoaaGreatVw
import Derived.Test.YtbmaolhjplapoaaGreatTa
import Derived.Test.YtbmaolhjplapoaaGreatHe
import Derived.Test.YtbmaolhjplapoaaGreatVr
import Derived.Test.YtbmaolhjplapoaaGreatRy
import Derived.Test.YtbmaolhjplapoaaGreatVy
set_option linter.unusedVariables false
set_option linter.unusedSimpArgs false
namespace Go.RR
open Go
open Go.IntKind (wrap)
theorem zTV {a b c : Int} (ha : 0 ≤ a ∧ a ≤ 255) (hb : 0 ≤ b ∧ b ≤ 255) (hc : 0 ≤ c ∧ c ≤ 255) : xI (upd (upd (upd zF 0 a) 1 b) 2 c) := fun k => by
 rw [uJ, uJ, uJ]
 split
 ·exact hc
 ·split
  ·exact hb
  ·split
   ·exact ha
   ·exact ⟨Int.le_refl 0, by show (0 : Int) ≤ 255; omega⟩
theorem zc6 {n : Nat} {sd : Int} {l : List Int} (hl : Byt l) (hn : n ≤ 9000) : ∃ (t : Nat → Int) (m : Nat) (sd' : Int), xv (n : Int) sd l = some (t, (m : Int), sd') ∧ xI t ∧ n ≤ m ∧ m ≤ n + 10 := by
 obtain ⟨b, m1, sd1, e1, b1, b2⟩ := zqX (n := n) (k := 3) (sd := sd) hl (by omega) (by omega)
 unfold xv YE
 rw [e1]
 dsimp only [Option.bind]
 cases b with
 | true =>
  obtain ⟨x, m2, sd2, e2, _, c1, c2, c3⟩ := y5 (n := m1) (k := 5) (sd := sd1) hl (by omega) (by omega)
  have ha : y8 (m1 : Int) sd1 l [0, 64, 128, 192, 255] = some (([0, 64, 128, 192, 255] : List Int).getD x.toNat 0, (m2 : Int), sd2, [0, 64, 128, 192, 255]) := by
   unfold y8
   rw [show ((List.length ([0, 64, 128, 192, 255] : List Int) : Nat) : Int) = 5 from rfl, e2]
   dsimp only [Option.bind]
   have c1 := c1 (by omega)
   rw [show inB x (List.length ([0, 64, 128, 192, 255] : List Int)) = true by
    unfold inB
    simp only [Bool.and_eq_true, decide_eq_true_eq]
    exact ⟨c1.1, by show x < 5; exact c1.2⟩]
   rfl
  rw [cond_true, ha]
  dsimp only
  have hv : 0 ≤ ([0, 64, 128, 192, 255] : List Int).getD x.toNat 0 ∧ ([0, 64, 128, 192, 255] : List Int).getD x.toNat 0 ≤ 255 := by
   have := c1 (by omega)
   obtain ⟨y, rfl⟩ := Int.eq_ofNat_of_zero_le this.1
   rcases (show y = 0 ∨ y = 1 ∨ y = 2 ∨ y = 3 ∨ y = 4 by omega) with rfl | rfl | rfl | rfl | rfl <;> exact ⟨by decide, by decide⟩
  rw [IntWalk.u8_in _ (by omega)]
  exact ⟨_, m2, sd2, rfl, zTV hv hv hv, by omega, by omega⟩
 | false =>
  obtain ⟨x, m2, sd2, e2, _, c1, c2, c3⟩ := y5 (n := m1) (k := 256) (sd := sd1) hl (by omega) (by omega)
  obtain ⟨y, m3, sd3, e3, _, d1, d2, d3⟩ := y5 (n := m2) (k := 256) (sd := sd2) hl (by omega) (by omega)
  obtain ⟨z, m4, sd4, e4, _, f1, f2, f3⟩ := y5 (n := m3) (k := 256) (sd := sd3) hl (by omega) (by omega)
  have c1 := c1 (by omega); have d1 := d1 (by omega); have f1 := f1 (by omega)
  rw [cond_false, e2]; dsimp only
  rw [e3]; dsimp only
  rw [e4]; dsimp only
  rw [IntWalk.u8_in x (by omega), IntWalk.u8_in y (by omega), IntWalk.u8_in z (by omega)]
  exact ⟨_, m4, sd4, rfl, zTV (by omega) (by omega) (by omega), by omega, by omega⟩
theorem zNP {p : List (Nat → Int)} {t : Nat → Int} (hp : zgJ p) (ht : xI t) : zgJ (p ++ [t]) := fun i => by
 unfold tn
 rw [List.getD_eq_getElem?_getD]
 by_cases h : i < p.length
 ·rw [List.getElem?_append_left h, ← List.getD_eq_getElem?_getD]
  exact hp i
 ·rw [List.getElem?_append_right (by omega)]
  obtain ⟨q, hq⟩ : ∃ q, i - p.length = q := ⟨_, rfl⟩
  rw [hq]
  cases q with
  | zero => exact ht
  | succ q => exact fun k => ⟨Int.le_refl 0, by show (0 : Int) ≤ 255; omega⟩
theorem zUz : zgJ [] := fun i k => ⟨Int.le_refl 0, by show (0 : Int) ≤ 255; omega⟩
theorem zNi (t : Nat → Int) : zbV [t] = true := (Zt [t]).2 ⟨fun i j hj hi => by simp at hi; omega, by simp, by simp⟩
theorem zcm {n : Nat} {sd : Int} {l : List Int} (hl : Byt l) (hn : n ≤ 8000) : ∃ (p : List (Nat → Int)) (m : Nat) (sd' : Int), yg 5 (n : Int) sd l = some ((m : Int), sd', p) ∧ zgJ p ∧ zbV p = true ∧ n ≤ m ∧ m ≤ n + 100 := by
 obtain ⟨t, m1, sd1, e1, ht, b1, b2⟩ := zc6 (n := n) (sd := sd) hl (by omega)
 obtain ⟨x, m2, sd2, e2, _, c1, c2, c3⟩ := y5 (n := m1) (k := 5) (sd := sd1) hl (by omega) (by omega)
 have c1 := c1 (by omega)
 unfold yg
 rw [e1]; dsimp only [Option.bind]
 rw [e2]; dsimp only
 unfold xX
 obtain ⟨x, rfl⟩ := Int.eq_ofNat_of_zero_le c1.1
 have hs : ∀ (k : Nat) s, (∃ (m : Nat) (sd' : Int) (p : List (Nat → Int)), s = (((k + 1 : Nat) : Int), (m : Int), sd', l, p) ∧ zgJ p ∧ zbV p = true ∧ n ≤ m ∧ m + 12 * (k + 1) ≤ n + 72) → ∃ s', zZ s.1 s.2.1 s.2.2.1 s.2.2.2.1 s.2.2.2.2 = some (.inl s') ∧ ∃ (m : Nat) (sd' : Int) (p : List (Nat → Int)), s' = ((k : Int), (m : Int), sd', l, p) ∧ zgJ p ∧ zbV p = true ∧ n ≤ m ∧ m + 12 * k ≤ n + 72 := by
  rintro k s ⟨m, sd', p, rfl, h2, h3, h4, h5⟩
  obtain ⟨t, m3, sd3, e3, ht, d1, d2⟩ := zc6 (n := m) (sd := sd') hl (by omega)
  have hlen := ((Zt p).1 h3).2
  show ∃ s', zZ ((k + 1 : Nat) : Int) m sd' l p = some (.inl s') ∧ _
  unfold zZ
  rw [decide_eq_true (show ((k + 1 : Nat) : Int) > 0 by omega), zG (by simp; omega), e3]
  simp only [cond_true, Option.bind, List.nil_append]
  rw [zG (by simp; omega), zCq (by simp; omega), IntWalk.i64_in (((k + 1 : Nat) : Int) - 1) (by omega), show ((k + 1 : Nat) : Int) - 1 = (k : Int) by omega]
  simp only [cond_true]
  cases hb : zbV (p ++ [t]) with
  | true => exact ⟨_, rfl, m3, sd3, p ++ [t], rfl, zNP h2 ht, hb, by omega, by omega⟩
  | false => exact ⟨_, rfl, m3, sd3, p, rfl, h2, h3, by omega, by omega⟩
 have he : ∀ s, (∃ (m : Nat) (sd' : Int) (p : List (Nat → Int)), s = (((0 : Nat) : Int), (m : Int), sd', l, p) ∧ zgJ p ∧ zbV p = true ∧ n ≤ m ∧ m + 12 * 0 ≤ n + 72) → ∃ r, zZ s.1 s.2.1 s.2.2.1 s.2.2.2.1 s.2.2.2.2 = some (.inr r) ∧ ∃ (m : Nat) (sd' : Int) (p : List (Nat → Int)), r = ((m : Int), sd', p) ∧ zgJ p ∧ zbV p = true ∧ n ≤ m ∧ m ≤ n + 72 := by
  rintro s ⟨m, sd', p, rfl, h2, h3, h4, h5⟩
  show ∃ r, zZ ((0 : Nat) : Int) m sd' l p = some (.inr r) ∧ _
  unfold zZ
  rw [show decide (((0 : Nat) : Int) > 0) = false from rfl, cond_false]
  exact ⟨_, rfl, m, sd', p, rfl, h2, h3, h4, by omega⟩
 obtain ⟨r, h1, m, sd', p, rfl, h2, h3, h4, h5⟩ := Xx (step := fun x => zZ x.1 x.2.1 x.2.2.1 x.2.2.2.1 x.2.2.2.2) (fun k s => ∃ (m : Nat) (sd' : Int) (p : List (Nat → Int)), s = ((k : Int), (m : Int), sd', l, p) ∧ zgJ p ∧ zbV p = true ∧ n ≤ m ∧ m + 12 * k ≤ n + 72) _ hs he x FU ((x : Int), (m2 : Int), sd2, l, [t]) (yC (ym (by omega))) ⟨m2, sd2, [t], rfl, zNP zUz ht, zNi t, by omega, by omega⟩
 exact ⟨p, m, sd', h1, h2, h3, h4, by omega⟩
theorem zpX (l : List Int) : (zx l).1 = ((0 : Nat) : Int) := rfl
theorem zqt {l : List Int} (hl : Byt l) : ∃ p, znz l = some p ∧ zgJ p ∧ zbV p = true := by
 obtain ⟨p, m, sd', e, h1, h2, _⟩ := zcm (n := 0) (sd := (zx l).2) hl (by omega)
 refine ⟨p, ?_, h1, h2⟩
 unfold znz
 rw [zpX, e]; rfl
theorem ze9 (f : Nat → Nat → Int) (i : Nat) (g : Nat → Int) (j : Nat) : Wg f i g j = if j = i then g else f j := by
 funext b
 unfold Wg
 by_cases e : j = i
 ·subst e; rw [Nat.beq_refl, if_pos rfl]; rfl
 ·rw [xQ e, if_neg e]; rfl
theorem zPl (f : Nat → Nat → Int) (i : Nat) (g g' : Nat → Int) : Wg (Wg f i g) i g' = Wg f i g' := by
 funext j
 rw [ze9, ze9, ze9]
 split <;> rfl
def znW (w h : Nat) (m : Nat → Nat → Int) : Prop := (∀ i, xI (m i)) ∧ ∀ i, ¬ isC w h i → m i = zF
theorem znW.set {w h : Nat} {m : Nat → Nat → Int} (hm : znW w h m) {i : Nat} (hi : isC w h i) {t : Nat → Int} (ht : xI t) : znW w h (Wg m i t) := by
 refine ⟨fun j => ?_, fun j hj => ?_⟩
 ·rw [ze9]
  split
  ·exact ht
  ·exact hm.1 j
 ·rw [ze9, if_neg (fun (e : j = i) => hj (by rw [e]; exact hi))]
  exact hm.2 j hj
theorem znW.ok {w h : Nat} {m : Nat → Nat → Int} (hm : znW w h m) (hw : 1 ≤ w ∧ w ≤ 12) (hh : 1 ≤ h ∧ h ≤ 12) : zMA w h m :=
 ⟨hw.1, hw.2, hh.1, hh.2, hm.1, fun i _ hc => by rw [hm.2 i hc]; rfl⟩
theorem zAM {l : List Int} (hl : Byt l) : ∃ (w h : Nat) (m : Nat → Nat → Int), zjm l = some ((w : Int), (h : Int), m) ∧ zMA w h m := by
 obtain ⟨x, m1, sd1, e1, _, c1, c2, c3⟩ := y5 (n := 0) (k := 5) (sd := (zx l).2) hl (by omega) (by omega)
 obtain ⟨y, m2, sd2, e2, _, d1, d2, d3⟩ := y5 (n := m1) (k := 4) (sd := sd1) hl (by omega) (by omega)
 obtain ⟨few, m3, sd3, e3, hf, hfb, f1, f2⟩ := zcm (n := m2) (sd := sd2) hl (by omega)
 obtain ⟨wild, m4, sd4, e4, g1, g2⟩ := zqX (n := m3) (k := 2) (sd := sd3) hl (by omega) (by omega)
 have c1 := c1 (by omega); have d1 := d1 (by omega)
 obtain ⟨x, rfl⟩ := Int.eq_ofNat_of_zero_le c1.1
 obtain ⟨y, rfl⟩ := Int.eq_ofNat_of_zero_le d1.1
 have hfl := ((Zt few).1 hfb).2
 have ew : wrap .i8 (wrap .i64 (1 + (x : Int))) = ((x + 1 : Nat) : Int) := by
  rw [IntWalk.i64_in _ (by omega), IntWalk.i8_in _ (by omega)]; omega
 have eh : wrap .i8 (wrap .i64 (1 + (y : Int))) = ((y + 1 : Nat) : Int) := by
  rw [IntWalk.i64_in _ (by omega), IntWalk.i8_in _ (by omega)]; omega
 have hcell : ∀ (i : Nat) (g : Nat → Nat → Int), i < 144 → VH ((x + 1 : Nat) : Int) ((y + 1 : Nat) : Int) g (i : Int) = decide (isC (x + 1) (y + 1) i) := fun i g hi => by
  have := zp6 (w := x + 1) (h := y + 1) (by omega) (by omega) zF hi
  unfold YP at this
  unfold VH
  exact this
 have hs : ∀ (k : Nat) s, (∃ (i : Nat) (m : Nat) (sd' : Int) (g : Nat → Nat → Int), i + (k + 1) = 144 ∧ s = (wild, (i : Int), (m : Int), sd', l, (0 : Int), (0 : Int), zF2, ((x + 1 : Nat) : Int), ((y + 1 : Nat) : Int), g, few) ∧ znW (x + 1) (y + 1) g ∧ m + 20 * (k + 1) ≤ 4000) →
   ∃ s', yH s.1 s.2.1 s.2.2.1 s.2.2.2.1 s.2.2.2.2.1 s.2.2.2.2.2.1 s.2.2.2.2.2.2.1 s.2.2.2.2.2.2.2.1 s.2.2.2.2.2.2.2.2.1 s.2.2.2.2.2.2.2.2.2.1 s.2.2.2.2.2.2.2.2.2.2.1 s.2.2.2.2.2.2.2.2.2.2.2 = some (.inl s') ∧ ∃ (i : Nat) (m : Nat) (sd' : Int) (g : Nat → Nat → Int), i + k = 144 ∧ s' = (wild, (i : Int), (m : Int), sd', l, (0 : Int), (0 : Int), zF2, ((x + 1 : Nat) : Int), ((y + 1 : Nat) : Int), g, few) ∧ znW (x + 1) (y + 1) g ∧ m + 20 * k ≤ 4000 := by
  rintro k s ⟨i, m, sd', g, hik, rfl, hI, hb⟩
  obtain ⟨z, m5, sd5, e5, q0, q1, q2, q3⟩ := y5 (n := m) (k := ((few.length : Nat) : Int)) (sd := sd') hl (by omega) (by omega)
  have hz : 0 ≤ z ∧ z < ((few.length : Nat) : Int) := by
   by_cases h1 : few.length = 1
   ·have := q0 (by omega); omega
   ·exact q1 (by omega)
  obtain ⟨z, rfl⟩ := Int.eq_ofNat_of_zero_le hz.1
  obtain ⟨t, m6, sd6, e6, ht, r1, r2⟩ := zc6 (n := m5) (sd := sd5) hl (by omega)
  show ∃ s', yH wild i m sd' l 0 0 zF2 ((x + 1 : Nat) : Int) ((y + 1 : Nat) : Int) g few = some (.inl s') ∧ _
  unfold yH xL
  rw [decide_eq_true (show (i : Int) < 144 by omega), hcell i g (by omega), zg (n := 144) (show i < 144 by omega), zd, zH (by omega), e5]
  simp only [cond_true, Option.bind]
  rw [zg (n := few.length) (by omega), zd, e6]
  simp only [cond_true]
  by_cases hc : isC (x + 1) (y + 1) i
  ·rw [decide_eq_true hc]
   cases wild
   ·exact ⟨_, rfl, i + 1, m5, sd5, _, by omega, rfl, hI.set hc (hf z), by omega⟩
   ·refine ⟨_, rfl, i + 1, m6, sd6, _, by omega, rfl, ?_, by omega⟩
    rw [zPl]
    exact hI.set hc ht
  ·rw [decide_eq_false hc]
   exact ⟨_, rfl, i + 1, m, sd', g, by omega, rfl, hI, by omega⟩
 have he : ∀ s, (∃ (i : Nat) (m : Nat) (sd' : Int) (g : Nat → Nat → Int), i + 0 = 144 ∧ s = (wild, (i : Int), (m : Int), sd', l, (0 : Int), (0 : Int), zF2, ((x + 1 : Nat) : Int), ((y + 1 : Nat) : Int), g, few) ∧ znW (x + 1) (y + 1) g ∧ m + 20 * 0 ≤ 4000) →
   ∃ r, yH s.1 s.2.1 s.2.2.1 s.2.2.2.1 s.2.2.2.2.1 s.2.2.2.2.2.1 s.2.2.2.2.2.2.1 s.2.2.2.2.2.2.2.1 s.2.2.2.2.2.2.2.2.1 s.2.2.2.2.2.2.2.2.2.1 s.2.2.2.2.2.2.2.2.2.2.1 s.2.2.2.2.2.2.2.2.2.2.2 = some (.inr r) ∧ ∃ (g : Nat → Nat → Int) (m : Nat) (sd' : Int), r = (((x + 1 : Nat) : Int), ((y + 1 : Nat) : Int), g, (m : Int), sd') ∧ znW (x + 1) (y + 1) g := by
  rintro s ⟨i, m, sd', g, hik, rfl, hI, hb⟩
  obtain rfl : i = 144 := by omega
  show ∃ r, yH wild ((144 : Nat) : Int) m sd' l 0 0 zF2 ((x + 1 : Nat) : Int) ((y + 1 : Nat) : Int) g few = some (.inr r) ∧ _
  unfold yH xL
  rw [show decide (((144 : Nat) : Int) < 144) = false from rfl, cond_false]
  exact ⟨_, rfl, g, m, sd', rfl, hI⟩
 obtain ⟨r, h1, g, m, sd', rfl, h2⟩ := Xx (step := fun s => yH s.1 s.2.1 s.2.2.1 s.2.2.2.1 s.2.2.2.2.1 s.2.2.2.2.2.1 s.2.2.2.2.2.2.1 s.2.2.2.2.2.2.2.1 s.2.2.2.2.2.2.2.2.1 s.2.2.2.2.2.2.2.2.2.1 s.2.2.2.2.2.2.2.2.2.2.1 s.2.2.2.2.2.2.2.2.2.2.2) (fun k s => ∃ (i : Nat) (m : Nat) (sd' : Int) (g : Nat → Nat → Int), i + k = 144 ∧ s = (wild, (i : Int), (m : Int), sd', l, (0 : Int), (0 : Int), zF2, ((x + 1 : Nat) : Int), ((y + 1 : Nat) : Int), g, few) ∧ znW (x + 1) (y + 1) g ∧ m + 20 * k ≤ 4000) _ hs he 144 FU (wild, ((0 : Nat) : Int), (m4 : Int), sd4, l, (0 : Int), (0 : Int), zF2, ((x + 1 : Nat) : Int), ((y + 1 : Nat) : Int), zF2, few) (yC (ym (by omega))) ⟨0, m4, sd4, zF2, rfl, rfl, ⟨fun i k => ⟨Int.le_refl 0, by show (0 : Int) ≤ 255; omega⟩, fun i _ => rfl⟩, by omega⟩
 refine ⟨x + 1, y + 1, g, ?_, h2.ok (by omega) (by omega)⟩
 unfold zjm
 rw [zpX]
 unfold ZL ZS
 rw [e1]; dsimp only [Option.bind]
 rw [e2]; dsimp only
 rw [e3]; dsimp only
 rw [e4]; dsimp only
 rw [ew, eh]
 have h1' : XJ (wild, 0, (m4 : Int), sd4, l, 0, 0, zF2, ((x + 1 : Nat) : Int), ((y + 1 : Nat) : Int), zF2, few) = some (((x + 1 : Nat) : Int), ((y + 1 : Nat) : Int), g, (m : Int), sd') := h1
 rw [h1']
end Go.RR
namespace Go.RR
open Go
open Go.IntKind (wrap)
theorem zAa {τ : Type} {g : τ → Nat → τ} {N : Nat} (I : Nat → τ → Prop) {st : τ} (h0 : I 0 st) (hs : ∀ i st, i < N → I i st → I (i + 1) (g st i)) : ∀ n, n ≤ N → I n ((List.range' 0 n).foldl g st)
 | 0, _ => h0
 | n + 1, h => by
  rw [List.range'_1_concat, List.foldl_append]
  have := hs n _ (by omega) (zAa I h0 hs n (by omega))
  simpa using this
section
variable {w h : Nat} (hw : w ≤ 12) (hh : h ≤ 12) {f : Nat → Int}
def zyR (w h : Nat) (f : Nat → Int) (s : Nat) : List Nat := listed fun k => (xK w h f s).contains k
def zm8 (w h : Nat) (f : Nat → Int) (s : Nat) : List Int := cst (zyR w h f s)
theorem zOt (w h : Nat) (f : Nat → Int) (s : Nat) : (zyR w h f s).length ≤ 144 := Ym (Yi _) fun x hx => (XH.1 hx).1
structure zD2 (w h : Nat) (f : Nat → Int) (ss : List Nat) (n : Nat) : Prop where
 cell : ∀ s ∈ ss, isC w h s
 apart : ss.Pairwise fun s t => ∀ k, k ∈ xK w h f s → k ∉ xK w h f t
 all : ∀ k, k < n → isC w h k → ∃ s ∈ ss, k ∈ xK w h f s
 len : ss.length ≤ n
include hw hh
theorem zPU : ∀ n, n ≤ 144 → ∃ ss, zD2 w h f ss n ∧ ((List.range' 0 n).foldl (fdS w h f) ([], zB)).1 = ss.map (zm8 w h f) ∧ ((List.range' 0 n).foldl (fdS w h f) ([], zB)).2 = fun k => ss.any fun s => (xK w h f s).contains k := by
 refine zAa (τ := List (List Int) × (Nat → Bool)) (I := fun n st => ∃ ss : List Nat, zD2 w h f ss n ∧ st.1 = ss.map (zm8 w h f) ∧ st.2 = fun k => ss.any fun s => (xK w h f s).contains k) ?_ ?_
 ·exact ⟨[], ⟨fun s hs => (by cases hs), List.Pairwise.nil, fun k hk => by omega, Nat.le_refl _⟩, rfl, rfl⟩
 ·rintro i ⟨o, d⟩ hi ⟨ss, hp, h1, h2⟩
  dsimp only at h1 h2
  subst h1 h2
  unfold fdS
  dsimp only
  by_cases hc : isC w h i
  ·rw [decide_eq_true hc, Bool.true_and]
   cases hd : ss.any fun s => (xK w h f s).contains i with
   | true =>
    rw [Bool.not_true, cond_false]
    refine ⟨ss, ⟨hp.cell, hp.apart, fun k hk hck => ?_, by have := hp.len; omega⟩, rfl, rfl⟩
    by_cases e : k = i
    ·subst e
     obtain ⟨s, hs, hm⟩ := List.any_eq_true.1 hd
     exact ⟨s, hs, by simpa using hm⟩
    ·exact hp.all k (by omega) hck
   | false =>
    rw [Bool.not_false, cond_true]
    refine ⟨ss ++ [i], ⟨fun s hs => ?_, ?_, fun k hk hck => ?_, by rw [List.length_append]; have := hp.len; simp; omega⟩, by simp [zm8, zyR], by funext k; simp⟩
    ·rcases List.mem_append.1 hs with hs | hs
     ·exact hp.cell s hs
     ·rw [List.mem_singleton] at hs; subst hs; exact hc
    ·rw [List.pairwise_append]
     refine ⟨hp.apart, List.pairwise_singleton _ _, fun s hs t ht k hk hk2 => ?_⟩
     rw [List.mem_singleton] at ht; subst ht
     have hin := zJI hw hh (hp.cell s hs) hc hk hk2
     have : (ss.any fun s => (xK w h f s).contains t) = true := List.any_eq_true.2 ⟨s, hs, by simpa using hin⟩
     rw [this] at hd; cases hd
    ·by_cases e : k = i
     ·subst e; exact ⟨k, by simp, zHM hw hh hc⟩
     ·obtain ⟨s, hs, hm⟩ := hp.all k (by omega) hck
      exact ⟨s, by simp [hs], hm⟩
  ·rw [decide_eq_false hc, Bool.false_and, cond_false]
   refine ⟨ss, ⟨hp.cell, hp.apart, fun k hk hck => ?_, by have := hp.len; omega⟩, rfl, rfl⟩
   by_cases e : k = i
   ·subst e; exact absurd hck hc
   ·exact hp.all k (by omega) hck
theorem zPw : ∃ ss, zD2 w h f ss 144 ∧ (fdA w h f).1 = ss.map (zm8 w h f) := by
 obtain ⟨ss, h1, h2, _⟩ := zPU hw hh (f := f) 144 (Nat.le_refl _)
 exact ⟨ss, h1, by rw [zr2]; exact h2⟩
theorem Vv {s : Nat} (hs : isC w h s) {k : Nat} : k ∈ zyR w h f s ↔ k ∈ xK w h f s := by
 have := zhs hw hh (f := f) hs k
 unfold zyR
 rw [← List.contains_iff_mem, this, List.contains_iff_mem]
theorem zDq {s : Nat} (hs : isC w h s) {k : Nat} (hk : k ∈ zyR w h f s) : k < 144 := zqm hw hh hs k ((Vv hw hh hs).1 hk)
theorem zPf {s : Nat} (hs : isC w h s) {k : Nat} (hk : k ∈ zyR w h f s) : f k = f s := (zbs hw hh hs).1.col k ((Vv hw hh hs).1 hk)
end
end Go.RR
namespace Go.RR
open Go
open Go.IntKind (wrap)
theorem ziE {α : Type} {l : List α} {x d : α} {i : Nat} (h : i < l.length) : (l ++ [x]).getD i d = l.getD i d := by
 rw [List.getD_eq_getElem?_getD, List.getElem?_append_left h, List.getD_eq_getElem?_getD]
theorem zAW {α : Type} {l : List α} {x d : α} : (l ++ [x]).getD l.length d = x := by
 rw [List.getD_eq_getElem?_getD, List.getElem?_append_right (Nat.le_refl _)]; simp
theorem Ue.add {l : List Job} (h : Ue l) (hl : l.length < 6) {d af : Int} (hd : 1 ≤ d ∧ d ≤ 6) (ha : 0 ≤ af ∧ af ≤ 65535) (hb : ∀ k, af.toNat.testBit k = true → k < l.length) : Ue (l ++ [(d, af)]) := by
 have cases : ∀ i, i < (l ++ [(d, af)]).length → i < l.length ∨ i = l.length := fun i hi => by simp at hi; omega
 refine ⟨by simp; omega, fun i hi => ?_, fun i hi => ?_, fun i k hi hk => ?_⟩
 ·rcases cases i hi with e | rfl
  ·rw [ziE e]; exact h.days i e
  ·rw [zAW]; exact hd
 ·rcases cases i hi with e | rfl
  ·rw [ziE e]; exact h.rng i e
  ·rw [zAW]; exact ha
 ·rcases cases i hi with e | rfl
  ·rw [ziE e] at hk; exact h.bits i k e hk
  ·rw [zAW] at hk; exact hb k hk
theorem zuk {a : List Int} (ha : Byt a) {l : List Job} (hl : Ue l) (hl6 : l.length < 6) {x0 d : Int} (hx : 1 ≤ x0 ∧ x0 ≤ 6) (hd : 1 ≤ d ∧ d ≤ 6) {m0 : Nat} {sd : Int} (hm : m0 ≤ 1000) :
  ∃ r, Ya (x0, 0, (m0 : Int), sd, a, l, d, 0) = some r ∧ ∃ (m : Nat) (sd' af : Int), r = .inl (x0 - 1, (m : Int), sd', a, l ++ [(d, af)]) ∧ m ≤ m0 + 20 ∧ Ue (l ++ [(d, af)]) := by
 unfold Ya
 refine Xx (step := fun x => xw x.1 x.2.1 x.2.2.1 x.2.2.2.1 x.2.2.2.2.1 x.2.2.2.2.2.1 x.2.2.2.2.2.2.1 x.2.2.2.2.2.2.2) (fun k s => ∃ (i m : Nat) (sd' af : Int), s = (x0, (i : Int), (m : Int), sd', a, l, d, af) ∧ i + k = l.length ∧ m ≤ m0 + 2 * i ∧ (0 ≤ af ∧ af ≤ 65535) ∧ ∀ q, af.toNat.testBit q = true → q < i) _ ?_ ?_ l.length FU (x0, 0, (m0 : Int), sd, a, l, d, 0) (yC (ym (by omega))) ⟨0, m0, sd, 0, rfl, by omega, by omega, by omega, fun q hq => by rw [show (0 : Int).toNat = 0 from rfl, Nat.zero_testBit] at hq; cases hq⟩
 ·rintro k s ⟨i, m, sd', af, rfl, h1, h2, h3, h4⟩
  obtain ⟨b, m', s'', e, u1, u2⟩ := zqX (n := m) (k := 4) (sd := sd') ha (by omega) (by omega)
  obtain ⟨t1, t2⟩ := zqS (show i < 12 by omega)
  obtain ⟨o1, o2, o3⟩ := zBA h3 t1
  show ∃ s', xw x0 i m sd' a l d af = some (.inl s') ∧ _
  unfold xw xM
  try dsimp (config := {proj := false, iota := false, eta := false}) only
  rw [zD (show i < l.length by omega), e, zc7 (by omega), Vu, zH (by omega)]
  simp only [cond_true, cond_false, Option.bind]
  cases b with
  | false => exact ⟨_, rfl, i + 1, m', s'', af, rfl, by omega, by omega, h3, fun q hq => by have := h4 q hq; omega⟩
  | true =>
   refine ⟨_, rfl, i + 1, m', s'', _, rfl, by omega, by omega, ⟨o2, o3⟩, fun q hq => ?_⟩
   rw [o1, Nat.testBit_or, t2] at hq
   by_cases e2 : i = q
   ·omega
   ·rw [decide_eq_false e2, Bool.or_false] at hq
    have := h4 q hq; omega
 ·rintro s ⟨i, m, sd', af, rfl, h1, h2, h3, h4⟩
  obtain rfl : i = l.length := by omega
  show ∃ r, xw x0 (l.length : Nat) m sd' a l d af = some (.inr r) ∧ _
  unfold xw xM
  try dsimp (config := {proj := false, iota := false, eta := false}) only
  rw [zS, cond_false, zG (by simp; omega), IntWalk.i64_in (x0 - 1) (by omega)]
  exact ⟨_, rfl, m, sd', af, rfl, by omega, hl.add hl6 hd h3 h4⟩
structure zBd (l : List Job) : Prop where
 ok : yh l
 valid : yI l = true
 len : l.length ≤ 6
theorem zBk {a : List Int} (ha : Byt a) : ∃ l, zmg a = some l ∧ zBd l := by
 unfold zmg ZV Z2
 try dsimp (config := {proj := false, iota := false, eta := false}) only
 obtain ⟨x, m, sd, e, _, hx, _, hm⟩ := y5 (n := 0) (k := 7) (sd := 0) ha (by omega) (by omega)
 have hx := hx (by omega)
 have e : zm (wrap .i64 (6 + 1)) (zx a).1 (zx a).2 a = some (x, (m : Int), sd) := e
 rw [e]
 simp only [Option.bind]
 have key : ∃ r, Yb (x, (m : Int), sd, a, []) = some r ∧ zBd r.2.2 := by
  unfold Yb
  refine Xx (step := fun x => xr x.1 x.2.1 x.2.2.1 x.2.2.2.1 x.2.2.2.2) (fun k s => ∃ (m : Nat) (sd : Int) (l : List Job), s = ((k : Int), (m : Int), sd, a, l) ∧ l.length + k ≤ 6 ∧ m ≤ 2 + 30 * l.length ∧ Ue l) _ ?_ ?_ x.toNat FU (x, (m : Int), sd, a, []) (yC (ym (by omega))) ⟨m, sd, [], by rw [Int.toNat_of_nonneg hx.1], by show 0 + x.toNat ≤ 6; omega, by show m ≤ 2 + 30 * 0; omega, ⟨by show 0 ≤ 6; omega, fun i hi => (nomatch hi), fun i hi => (nomatch hi), fun i k hi => (nomatch hi)⟩⟩
  ·rintro k s ⟨m, sd, l, rfl, h1, h2, h3⟩
   obtain ⟨y, m1, sd1, e1, _, hy, _, hm1⟩ := y5 (n := m) (k := 6) (sd := sd) ha (by omega) (by omega)
   have hy := hy (by omega)
   show ∃ s', xr ((k + 1 : Nat) : Int) m sd a l = some (.inl s') ∧ _
   unfold xr xO
   try dsimp (config := {proj := false, iota := false, eta := false}) only
   rw [decide_eq_true (show ((k + 1 : Nat) : Int) > 0 by omega), e1]
   simp only [cond_true, Option.bind]
   rw [IntWalk.i64_in (1 + y) (by omega), IntWalk.i8_in (1 + y) (by omega)]
   obtain ⟨r, q1, m2, sd2, af, rfl, q2, q3⟩ := zuk ha h3 (by omega) (x0 := ((k + 1 : Nat) : Int)) (d := 1 + y) (by omega) (by omega) (m0 := m1) (sd := sd1) (by omega)
   rw [q1]
   refine ⟨_, rfl, m2, sd2, _, ?_, by simp; omega, by simp; omega, q3⟩
   rw [show ((k + 1 : Nat) : Int) - 1 = (k : Int) by omega]
  ·rintro s ⟨m, sd, l, rfl, h1, h2, h3⟩
   have hz : ∀ (z : Int × Int × List Job), z.2.2 = l → ∃ r, (some (Sum.inr z) : Option ((Int × Int × Int × List Int × List Job) ⊕ (Int × Int × List Job))) = some (.inr r) ∧ zBd r.2.2 := fun z e => ⟨z, rfl, by rw [e]; exact ⟨h3.ok, h3.valid, h3.len⟩⟩
   show ∃ r, xr ((0 : Nat) : Int) m sd a l = some (.inr r) ∧ _
   unfold xr xO
   try dsimp (config := {proj := false, iota := false, eta := false}) only
   rw [show decide (((0 : Nat) : Int) > 0) = false from rfl, cond_false]
   by_cases hn : ((l.length : Nat) : Int) > 1
   ·rw [decide_eq_true hn, cond_true]
    obtain ⟨b, m1, sd1, e1, _, u1⟩ := zqX (n := m) (k := 3) (sd := sd) ha (by omega) (by omega)
    rw [e1]
    simp only [Option.bind]
    cases b with
    | false => exact hz _ rfl
    | true =>
     obtain ⟨y, m2, sd2, e2, _, hy, _, hm2⟩ := y5 (n := m1) (k := ((l.length : Nat) : Int)) (sd := sd1) ha (by omega) (by omega)
     have hy := hy (by omega)
     obtain ⟨z, m3, sd3, e3, _, hz2, _, hm3⟩ := y5 (n := m2) (k := ((l.length : Nat) : Int)) (sd := sd2) ha (by omega) (by omega)
     have hz2 := hz2 (by omega)
     rw [cond_true, e2]
     dsimp only
     rw [zG (by simp; omega), List.nil_append, zQE hy, e3, cond_true, cond_true]
     dsimp only
     rw [cond_true, IntWalk.u64_in z (by omega), decide_eq_false (show ¬ z < 0 by omega), cond_false]
     have hlen : (l.set y.toNat ((l.getD y.toNat ((0, 0) : Int × Int)).1, zG1 .u16 (l.getD y.toNat ((0, 0) : Int × Int)).2 (yl .u16 1 z))).length = l.length := List.length_set
     rw [zBp _ (by rw [hlen]; omega)]
     dsimp only
     cases hv : yI (l.set y.toNat ((l.getD y.toNat ((0, 0) : Int × Int)).1, zG1 .u16 (l.getD y.toNat ((0, 0) : Int × Int)).2 (yl .u16 1 z))) with
     | false => exact hz _ rfl
     | true =>
      refine ⟨_, rfl, ⟨fun x hx => ?_, hv, by show (l.set _ _).length ≤ 6; rw [hlen]; omega⟩⟩
      rcases List.mem_or_eq_of_mem_set hx with hx | rfl
      ·exact h3.ok x hx
      ·have := h3.days y.toNat (by omega)
       refine ⟨by show -128 ≤ (l.getD y.toNat ((0, 0) : Int × Int)).1 ∧ (l.getD y.toNat ((0, 0) : Int × Int)).1 ≤ 127; omega, ?_⟩
       exact zTb _
   ·rw [decide_eq_false hn]
    exact hz _ rfl
 obtain ⟨r, e1, e2⟩ := key
 rw [e1]
 exact ⟨_, rfl, e2⟩
theorem zAB {l : List Job} {tk : Int} (h0 : 0 ≤ tk) {i : Nat} {α : Type} (a b : α) : cond ((Int.tmod (yz .u16 tk (i : Int)) 2) == 0) (cond ((zO .u16 (l.getD i ((0, 0) : Int × Int)).2 tk) == 0) a b) b = cond (ready l tk i) a b := by
 rw [Int.tmod_eq_emod_of_nonneg (Zz h0).1]
 unfold ready
 cases ((yz .u16 tk (i : Int)) % 2 == 0) <;> rfl
theorem zFC {l : List Job} {tk : Int} (h0 : 0 ≤ tk) {j : Nat} (hj : j < l.length) (h : ready l tk j = true) : okO l tk (j : Int) = true := by
 unfold ready at h
 unfold okO zK
 rw [decide_eq_true (show (j : Int) ≥ 0 by omega), decide_eq_true (show (j : Int) ≤ ((l.length : Nat) : Int) - 1 by omega), zd]
 cases hb : (yz .u16 tk (j : Int) % 2 == 0) with
 | false => rw [hb] at h; cases h
 | true =>
  rw [hb, cond_true] at h
  rw [h]
  have := beq_iff_eq.1 hb
  rw [this]; rfl
theorem zwh {a : List Int} (ha : Byt a) {l : List Job} (hj : yh l) (hv : yI l = true) : ∃ o, zm6 a l = some o ∧ isO l 0 o = true ∧ o.length = l.length := by
 have hn := (Yg hv).1
 have hflow := zA4 hj hv
 unfold zm6 zdp
 refine Xx (step := fun x => wn x.1 x.2.1 x.2.2.1 x.2.2.2.1 x.2.2.2.2.1 x.2.2.2.2.2) (fun k s => ∃ (tk : Int) (m : Nat) (sd : Int) (out : List Int), s = (tk, l, (m : Int), sd, a, out) ∧ zbZ l.length tk ∧ xp tk 0 l.length = k ∧ out.length + k = l.length ∧ (∀ r, isO l tk r = true → isO l 0 (out ++ r) = true) ∧ m ≤ 2 * out.length) _ ?_ ?_ l.length FU (0, l, (zx a).1, (zx a).2, a, []) (yC (ym (by omega))) ⟨0, 0, 0, [], rfl, zsx _, Xd _ _, by simp, fun r h => h, by simp⟩
 ·rintro k s ⟨tk, m, sd, out, rfl, h1, h2, h3, h4, h5⟩
  show ∃ s', wn tk l m sd a out = some (.inl s') ∧ _
  unfold wn
  rw [zD (show out.length < l.length by omega), cond_true]
  have key : ∃ r, ut (tk, 0, l, (m : Int), sd, a, out, []) = some r ∧ ∃ (m' : Nat) (sd' : Int) (j : Nat), r = .inl (tkI tk j, l, (m' : Int), sd', a, out ++ [(j : Int)]) ∧ j < l.length ∧ ready l tk j = true ∧ m' ≤ m + 2 := by
   unfold ut
   refine Xx (step := fun x => X8 x.1 x.2.1 x.2.2.1 x.2.2.2.1 x.2.2.2.2.1 x.2.2.2.2.2.1 x.2.2.2.2.2.2.1 x.2.2.2.2.2.2.2) (fun k s => ∃ (i : Nat) (fr : List Int), s = (tk, (i : Int), l, (m : Int), sd, a, out, fr) ∧ i + k = l.length ∧ fr.length ≤ i ∧ (∀ x ∈ fr, ∃ j : Nat, x = (j : Int) ∧ j < l.length ∧ ready l tk j = true) ∧ ((∃ j, j < i ∧ ready l tk j = true) → 0 < fr.length)) _ ?_ ?_ l.length FU (tk, 0, l, (m : Int), sd, a, out, []) (yC (ym (by omega))) ⟨0, [], rfl, by omega, by simp, fun x hx => (nomatch hx), fun ⟨j, hj, _⟩ => by omega⟩
   ·rintro k s ⟨i, fr, rfl, g1, g2, g3, g4⟩
    show ∃ s', X8 tk i l m sd a out fr = some (.inl s') ∧ _
    unfold X8
    have hi : i < l.length := by omega
    rw [zD hi, zc7 (by omega), Vu, zg hi, zd, zG (by simp; omega), zH (by omega)]
    simp only [cond_true, cond_false]
    rw [zAB h1.rng.1]
    cases hr : ready l tk i with
    | false =>
     refine ⟨_, rfl, i + 1, fr, rfl, by omega, by omega, g3, fun ⟨j, j1, j2⟩ => ?_⟩
     by_cases e : j = i
     ·subst e; rw [hr] at j2; cases j2
     ·exact g4 ⟨j, by omega, j2⟩
    | true =>
     refine ⟨_, rfl, i + 1, fr ++ [(i : Int)], rfl, by omega, by simp; omega, fun x hx => ?_, fun _ => by simp⟩
     rcases List.mem_append.1 hx with hx | hx
     ·exact g3 x hx
     ·rw [List.mem_singleton] at hx
      exact ⟨i, hx, hi, hr⟩
   ·rintro s ⟨i, fr, rfl, g1, g2, g3, g4⟩
    obtain rfl : i = l.length := by omega
    have hfr := g4 (hflow tk h1 (by omega))
    obtain ⟨y, m1, sd1, e1, hy0, hy, _, hm1⟩ := y5 (n := m) (k := ((fr.length : Nat) : Int)) (sd := sd) ha (by omega) (by omega)
    have hy2 : 0 ≤ y ∧ y < ((fr.length : Nat) : Int) := by
     by_cases e : ((fr.length : Nat) : Int) ≤ 1
     ·rw [hy0 e]; omega
     ·exact hy (by omega)
    obtain ⟨j, j1, j2, j3⟩ := g3 _ (zR (d := (0 : Int)) (show y.toNat < fr.length by omega))
    show ∃ r, X8 tk (l.length : Nat) l m sd a out fr = some (.inr r) ∧ _
    unfold X8
    rw [zS, cond_false, e1]
    simp only [Option.bind]
    rw [zQE hy2, j1, zG (by simp; omega), zc7 (by omega), Vu]
    exact ⟨_, rfl, m1, sd1, j, rfl, j2, j3, by omega⟩
  obtain ⟨r, e1, m', sd', j, rfl, j1, j2, j3⟩ := key
  rw [e1]
  have hb := xE h1.rng.1 (show j < 16 by omega) j2
  have hcs := xG (xC h1 j1 hn).2 hb l.length 0 (Nat.zero_le _) (by omega)
  refine ⟨_, rfl, tkI tk j, m', sd', _, rfl, (xC h1 j1 hn).1, by omega, by simp; omega, fun r hr => ?_, by simp; omega⟩
  have := h4 ((j : Int) :: r) (by
   unfold isO
   rw [zFC h1.rng.1 j1 j2, cond_true]
   exact hr)
  rw [List.append_assoc]
  exact this
 ·rintro s ⟨tk, m, sd, out, rfl, h1, h2, h3, h4, h5⟩
  show ∃ r, wn tk l m sd a out = some (.inr r) ∧ _
  unfold wn
  rw [show out.length = l.length by omega, zS, cond_false]
  have := h4 [] rfl
  rw [List.append_nil] at this
  exact ⟨_, rfl, this, by omega⟩
end Go.RR
namespace Go.RR
open Go
open Go.IntKind (wrap)
section
variable {l : List Job} {H : Nat} {p : List zX} (hv : VJ l) (hH : 1 ≤ H ∧ H ≤ 4) (hb : Ui l H p)
include hv hH hb
end
theorem zTs {l : List Job} {H : Nat} {p : List zX} (hv : yI l = true) (hH : 1 ≤ H ∧ H ≤ 4) (hp : zl1 (H : Int) l p = true) : zD9 (H : Int) l p = 0 := by
 unfold zD9
 rw [hv, zfS hH, hp]; rfl
section
variable {l : List Job} {H : Nat} {p : List zX} {a1 : List Int} (hvl : yI l = true) (hv : VJ l) (hH : 1 ≤ H ∧ H ≤ 4) (hb : Ui l H p)
include hvl hv hH hb
end
end Go.RR
namespace Go.RR
open Go
open Go.IntKind (wrap)
theorem zAK (l : List zX) (hl : l.length ≤ 1000000) : znr l l = some true := by
 unfold znr
 have : ((l.length : Int) != (l.length : Int)) = false := by simp
 rw [this, cond_false]
 unfold zd2
 have h := XV (step := fun x => wI x.1 x.2.1 x.2.2) l.length (fun i => ((i : Int), l, l)) (fun i => true) true false (by omega) ?_ ?_
 ·exact h.trans (by simp)
 ·intro i hi
  show wI i l l = _
  unfold wI
  rw [zD hi, zg hi, zd, zH (by omega), beq_self_eq_true, beq_self_eq_true]
  rfl
 ·show wI (l.length : Nat) l l = _
  unfold wI
  rw [zS, cond_false]
section
variable {l : List Job} {H : Nat} {ord : List Int} {a1 : List Int} (hvl : yI l = true) (hv : VJ l) (hH : 1 ≤ H ∧ H ≤ 4) (ho : isO l 0 ord = true) (hol : ord.length = l.length) (ha : Byt a1)
include hvl hv hH ho hol ha
end
end Go.RR
namespace Go.RR
open Go
open Go.IntKind (wrap)
theorem zBj {l : List Job} {H : Nat} {p : List zX} (hvl : yI l = true) (hv : VJ l) (hH : 1 ≤ H ∧ H ≤ 4) (hb : Ui l H p) : zgP l (H : Int) p = some (Xs l p, 0) := by
 have hn := hv.len
 unfold zgP
 rw [zPm hv.ok (by omega), zTs hvl hH (zpq hv hH hb), zSR hn (zyL hv hH hb)]
 rfl
theorem zxQ {l : List Job} {H : Nat} {p : List zX} (hvl : yI l = true) (hv : VJ l) (hH : 1 ≤ H ∧ H ≤ 4) (hb : Ui l H p) : zax l (H : Int) p = some true := by
 have hn := hv.len
 rw [zoS hv.ok (by omega)]
 unfold zp1
 rw [hvl, zfS hH, zpq hv hH hb]; rfl
end Go.RR
namespace Go.RR
open Go
open Go.IntKind (wrap)
def OKW (r : List Int) : Prop := ∀ x ∈ r, 1 ≤ x ∧ x ≤ 200
theorem zfW {x : Int} (h : 1 ≤ x ∧ x ≤ 200) : Ve x = true := by
 unfold Ve zK
 rw [decide_eq_true (show x ≥ 1 by omega), decide_eq_true (show x ≤ 200 by omega)]; rfl
theorem zTr {x : Int} (h : 1 ≤ x ∧ x ≤ 2000) : zkF x = true := by
 unfold zkF yf
 rw [decide_eq_true (show (1 : Int) ≤ x by omega), decide_eq_true (show x ≤ 2000 by omega)]; rfl
theorem zrp {x : Int} (h : 0 ≤ x ∧ x ≤ 200) : VK x = true := by
 unfold VK yf
 rw [decide_eq_true (show (0 : Int) ≤ x by omega), decide_eq_true (show x ≤ 200 by omega)]; rfl
theorem zUx {n : Nat} : zK ((n : Nat) : Int) 1 60 = decide (1 ≤ n ∧ n ≤ 60) := by
 unfold zK
 by_cases h1 : 1 ≤ n
 ·rw [decide_eq_true (show (n : Int) ≥ 1 by omega)]
  by_cases h2 : n ≤ 60
  ·rw [decide_eq_true (show (n : Int) ≤ 60 by omega), decide_eq_true ⟨h1, h2⟩]; rfl
  ·rw [decide_eq_false (show ¬ (n : Int) ≤ 60 by omega), decide_eq_false (fun h : 1 ≤ n ∧ n ≤ 60 => h2 h.2)]; rfl
 ·rw [decide_eq_false (show ¬ (n : Int) ≥ 1 by omega), decide_eq_false (fun h : 1 ≤ n ∧ n ≤ 60 => h1 h.1)]; rfl
theorem zBu {n : Nat} : yf ((n : Nat) : Int) 1 60 = decide (1 ≤ n ∧ n ≤ 60) := by
 unfold yf
 by_cases h1 : 1 ≤ n
 ·rw [decide_eq_true (show (1 : Int) ≤ (n : Int) by omega)]
  by_cases h2 : n ≤ 60
  ·rw [decide_eq_true (show (n : Int) ≤ 60 by omega), decide_eq_true ⟨h1, h2⟩]; rfl
  ·rw [decide_eq_false (show ¬ (n : Int) ≤ 60 by omega), decide_eq_false (fun h : 1 ≤ n ∧ n ≤ 60 => h2 h.2)]; rfl
 ·rw [decide_eq_false (show ¬ (1 : Int) ≤ (n : Int) by omega), decide_eq_false (fun h : 1 ≤ n ∧ n ≤ 60 => h1 h.1)]; rfl
def okR (r : List Int) : Bool := decide (1 ≤ r.length ∧ r.length ≤ 60)
theorem zVt {r : List Int} (h : OKW r) (hl : r.length ≤ 1000000) : zcs r = some (okR r) := by
 unfold zcs okR
 rw [zUx]
 cases hd : decide (1 ≤ r.length ∧ r.length ≤ 60)
 ·rfl
 ·show uc (0, r) = some true
  unfold uc
  refine (XV (step := fun x => wg x.1 x.2) r.length (fun i => ((i : Int), r)) (fun i => true) true false (by omega) ?_ ?_).trans (by simp)
  ·intro i hi
   show wg i r = _
   have hx := h _ (zR (d := 0) hi)
   unfold wg
   rw [zD hi, zg hi, zd, IntWalk.i64_in _ (by omega), zfW hx, zH (by omega)]
   rfl
  ·show wg (r.length : Nat) r = _
   unfold wg
   rw [zS, cond_false]
theorem zI1 (l : List Int) (hl : l.length ≤ 1000000) : zf1 l = some (l.any VO) := by
 unfold zf1 zhL zdr
 have hs1 : ∀ i, i < l.length → Xm (l.length : Nat) i l = some (cond (VO (l.getD i 0)) (Sum.inr (i : Int)) (Sum.inl (((l.length : Nat) : Int), ((i + 1 : Nat) : Int), l))) := by
  intro i hi
  unfold Xm
  rw [zD hi, zg hi, zd, zH (by omega)]
  simp only [cond_true]
  cases VO (l.getD i 0) <;> rfl
 have he1 : Xm (l.length : Nat) (l.length : Nat) l = some (Sum.inr (-1)) := by
  unfold Xm
  rw [zS, cond_false]
 obtain ⟨r, h1, h2, _⟩ := zbr (step := fun x => Xm x.1 x.2.1 x.2.2) l.length (fun i => (((l.length : Nat) : Int), (i : Int), l)) (fun i => VO (l.getD i 0)) hs1 he1 l.length 0 FU (by omega) (yC (ym (by omega)))
 have h1 : zI (fun x => Xm x.1 x.2.1 x.2.2) FU (((l.length : Nat) : Int), 0, l) = some r := h1
 rw [h1]
 simp only [Option.bind]
 rw [h2, zkA 0 l VO]
theorem zvY {l : List Int} (hl : l.length ≤ 1000000) : zfj l = some (l.all Ve) := by
 unfold zfj
 rw [zI1 _ hl]
 have e : ∀ x, VO x = !Ve x := fun x => rfl
 have : (l.any VO) = !(l.all Ve) := by
  rw [List.all_eq_not_any_not]
  simp [funext e]
 simp only [Option.bind, this, Bool.not_not]
theorem zKU {x : Int} (h : 1 ≤ x ∧ x ≤ 200) : zhJ x = some false := by
 unfold zhJ
 rw [IntWalk.i64_in _ (by omega), zvY (by simp)]
 simp only [Option.bind, List.all_cons, List.all_nil, zfW h]
 rfl
theorem zTp {r : List Int} (h : OKW r) (hl : r.length ≤ 1000000) : zee r = some false := by
 unfold zee zhS zdM
 have : zI (fun x => Xf x.1 x.2.1 x.2.2) FU (((r.length : Nat) : Int), 0, r) = some (-1) := by
  refine (XV (step := fun x => Xf x.1 x.2.1 x.2.2) r.length (fun i => (((r.length : Nat) : Int), (i : Int), r)) (fun i => true) (-1) 0 (by omega) ?_ ?_).trans (by rw [List.all_eq_true.2 (fun _ _ => rfl)]; rfl)
  ·intro i hi
   show Xf (r.length : Nat) i r = _
   unfold Xf
   rw [zD hi, zg hi, zd, zKU (h _ (zR (d := 0) hi)), zH (by omega)]
   rfl
  ·show Xf (r.length : Nat) (r.length : Nat) r = _
   unfold Xf
   rw [zS, cond_false]
 rw [this]; rfl
theorem zKf {r : List Int} (h : OKW r) (hl : r.length ≤ 1000000) : zcq r = some (okR r) := by
 unfold zcq okR
 rw [zBu, zTp h hl]
 cases decide (1 ≤ r.length ∧ r.length ≤ 60) <;> rfl
theorem zQK {n : Nat} (h : 0 < n) (h2 : n ≤ 2000000) : wrap .i64 (((n : Nat) : Int) - 1) = ((n - 1 : Nat) : Int) := by
 rw [IntWalk.i64_in _ (by omega)]; omega
structure OKR (r : List Int) : Prop where
 w : OKW r
 p : 1 ≤ r.length
 l : r.length ≤ 60
def zgG (r : List Int) (S : Int) : Int := r.foldl (· + ·) (((r.length - 1 : Nat) : Int) * S)
theorem zUY {r : List Int} {S : Int} (h : OKR r) (hS : 0 ≤ S ∧ S ≤ 200) : zeh r S = some (zgG r S) := by
 have hl := h.l
 have hp := h.p
 have hm : 0 ≤ ((r.length - 1 : Nat) : Int) * S ∧ ((r.length - 1 : Nat) : Int) * S ≤ 60 * 200 := by
  constructor
  ·exact Int.mul_nonneg (by omega) hS.1
  ·exact Int.mul_le_mul (by omega) hS.2 hS.1 (by omega)
 unfold zeh
 rw [zQK (by omega) (by omega), IntWalk.i64_in (((r.length - 1 : Nat) : Int) * S) (by omega)]
 unfold zdc
 refine zbJ (step := fun x => wb x.1 x.2.1 x.2.2.1 x.2.2.2) (0 : Int) r (fun i (s : Int) => (s, ((r.length : Nat) : Int), (i : Int), r)) (· + ·) (fun i s => 0 ≤ s ∧ s ≤ 12000 + 200 * i) _ (((r.length - 1 : Nat) : Int) * S) (by omega) (by omega) ?_ ?_
 ·intro i s hi hm2 hs
  have hx := h.w _ hm2
  refine ⟨?_, by omega⟩
  show wb s ((r.length : Nat) : Int) i r = _
  unfold wb
  rw [zD hi, zg hi, zd, IntWalk.i64_in (r.getD i 0) (by omega), IntWalk.i64_in (s + r.getD i 0) (by omega), zH (by omega)]
  rfl
 ·intro _
  show wb (zgG r S) ((r.length : Nat) : Int) ((r.length : Nat) : Int) r = _
  unfold wb
  rw [zS, cond_false]
theorem zR2 {n : Nat} (h1 : 1 ≤ n) (h2 : n ≤ 60) : decide (1 ≤ n ∧ n ≤ 60) = true := decide_eq_true ⟨h1, h2⟩
theorem zL6 {r : List Int} (h : OKR r) : zcq r = some true := by
 have := h.l
 rw [zKf h.w (by omega)]
 unfold okR
 rw [zR2 h.p h.l]
theorem zUn {r : List Int} (h : OKR r) : zcs r = some true := by
 have := h.l
 rw [zVt h.w (by omega)]
 unfold okR
 rw [zR2 h.p h.l]
theorem ztF {r : List Int} {S : Int} (h : OKR r) (hS : 0 ≤ S ∧ S ≤ 200) : znx r S = some (zgG r S, 0) := by
 unfold znx
 rw [zL6 h, zrp hS, zUY h hS]
 rfl
theorem zSj (l : List Int) (hl : l.length ≤ 1000000) : ziZ l l = some true := by
 unfold ziZ zg9
 have : ((l.length : Int) != (l.length : Int)) = false := by simp
 rw [this, cond_false]
 unfold zdA
 have h := XV (step := fun x => Y7 x.1 x.2.1 x.2.2) l.length (fun i => ((i : Int), l, l)) (fun i => true) true false (by omega) ?_ ?_
 ·have h : zI (fun x => Y7 x.1 x.2.1 x.2.2) FU (0, l, l) = some true := h.trans (by simp)
  rw [h]; rfl
 ·intro i hi
  show Y7 i l l = _
  unfold Y7
  rw [zD hi, zg hi, zd, zH (by omega)]
  have : (l.getD i 0 != l.getD i 0) = false := by simp
  rw [this]; rfl
 ·show Y7 (l.length : Nat) l l = _
  unfold Y7
  rw [zS, cond_false]
end Go.RR
namespace Go.RR
open Go
open Go.IntKind (wrap)
def zTj (z : List Int) : Prop := ∀ n ∈ z, 1 ≤ n
def MST : Int := 1000000000
def cnt (z : List Int) (s : Int) : Nat → Nat → Int
 | 0, t => if t = 0 then 1 else 0
 | k + 1, t => min ((z.map fun n => if n + s ≤ (t : Int) then cnt z s k ((t : Int) - n - s).toNat else 0).sum) MST
end Go.RR
namespace Go.RR
open Go
open Go.IntKind (wrap)
def tbl (n : Nat) (f : Nat → Int) : List Int := (List.range n).map f
theorem zfE (n : Nat) (f : Nat → Int) : (tbl n f).length = n := by simp [tbl]
def YQ (S k i : Nat) : Int := ((S / k + if i < S % k then 1 else 0 : Nat) : Int)
def zaa (S k : Nat) : List Int := tbl k (YQ S k)
theorem ziM (S k : Nat) : (zaa S k).length = k := zfE _ _
theorem zpZ (m : Nat) (f : Nat → Int) : (tbl (m + 1) f).sum = (tbl m f).sum + f m := by
 simp [tbl, List.range_succ]
theorem zoF (S k : Nat) : ∀ m, (tbl m (YQ S k)).sum = ((m * (S / k) + min m (S % k) : Nat) : Int)
 | 0 => by simp [tbl]
 | m + 1 => by
  rw [zpZ, zoF S k m]
  unfold YQ
  rw [Nat.succ_mul]
  split <;> omega
theorem zSt {S k : Nat} (hk : 0 < k) : (zaa S k).sum = (S : Int) := by
 unfold zaa
 rw [zoF]
 have h1 := Nat.mod_lt S hk
 have h2 := Nat.div_add_mod S k
 rw [Nat.min_eq_right (Nat.le_of_lt h1), h2]
end Go.RR
namespace Go.RR
open Go
open Go.IntKind (wrap)
structure zIQ (z : List Int) : Prop where
 len : 1 ≤ z.length ∧ z.length ≤ 8
 rng : ∀ n ∈ z, 1 ≤ n ∧ n ≤ 200
 inc : ∀ i, 0 < i → i < z.length → z.getD (i - 1) 0 < z.getD i 0
theorem zIQ.pos {z : List Int} (h : zIQ z) : zTj z := fun n hn => (h.rng n hn).1
theorem zFM {x a b : Int} (h : a ≤ x ∧ x ≤ b) : yf x a b = true := by
 unfold yf
 rw [decide_eq_true h.1, decide_eq_true h.2]; rfl
theorem zOJ {x a b : Int} (h : a ≤ x ∧ x ≤ b) : zK x a b = true := by
 unfold zK
 rw [decide_eq_true (show x ≥ a from h.1), decide_eq_true h.2]; rfl
theorem zNa {L S : Int} (hL : 1 ≤ L ∧ L ≤ 2000) (hS : 0 ≤ S ∧ S ≤ 200) : zeb L S = true := by
 unfold zeb Ua
 rw [zOJ hL, zOJ hS]; rfl
section
variable {z : List Int} {S : Int} (h : zIQ z) (hS : 0 ≤ S ∧ S ≤ 200)
include h hS
end
section
variable {z : List Int} {S : Int} (h : zIQ z) (hS : 0 ≤ S ∧ S ≤ 200)
include h hS
end
section
variable {z : List Int} {S : Int} (h : zIQ z) (hS : 0 ≤ S ∧ S ≤ 200)
include h hS
end
end Go.RR
namespace Go.RR
open Go
open Go.IntKind (wrap)
section
variable {z : List Int} {S : Int} (h : zIQ z) (hS : 0 ≤ S ∧ S ≤ 200)
include h hS
end
end Go.RR
namespace Go.RR
open Go
open Go.IntKind (wrap)
end Go.RR
namespace Go.RR
open Go
open Go.IntKind (wrap)
section
variable {r : List Int} (hr : ∀ x ∈ r, 1 ≤ x ∧ x ≤ 9) (hl : r.length ≤ 60) {left : Int} (hB : -10000 ≤ left ∧ left ≤ 10000)
include hr hl hB
end
theorem zS2 {r : List Int} (hr : ∀ x ∈ r, 1 ≤ x ∧ x ≤ 9) (h1 : 1 ≤ r.length) (h2 : r.length ≤ 60) : OKR r := ⟨fun x hx => by have := hr x hx; omega, h1, h2⟩
theorem zrV {a b : Int} (ha : 0 ≤ a ∧ a ≤ 60) (hb : 0 ≤ b ∧ b ≤ 200) : 0 ≤ a * b ∧ a * b ≤ 12000 := by
 refine ⟨Int.mul_nonneg ha.1 hb.1, ?_⟩
 have := Int.mul_le_mul ha.2 hb.2 hb.1 (show (0 : Int) ≤ 60 by omega)
 omega
theorem zDj (r : List Int) (S : Int) : zgG r S = ((r.length - 1 : Nat) : Int) * S + r.sum := by
 have : ∀ (l : List Int) (s : Int), l.foldl (· + ·) s = s + l.sum := by
  intro l
  induction l with
  | nil => intro s; simp
  | cons a l ih => intro s; rw [List.foldl_cons, ih, List.sum_cons]; omega
 unfold zgG
 rw [this]
theorem zVg {r : List Int} {S : Int} (h : OKR r) (hS : 0 ≤ S ∧ S ≤ 200) : zej r S = some (zgG r S) := by
 have hl := h.l
 have hp := h.p
 unfold zej
 have hm : 0 ≤ ((r.length - 1 : Nat) : Int) * S ∧ ((r.length - 1 : Nat) : Int) * S ≤ 12000 := zrV (by omega) hS
 rw [zQK (by omega) (by omega), Int.mul_comm, IntWalk.i64_in _ (by omega)]
 unfold zdw
 refine zbJ (step := fun x => wK x.1 x.2.1 x.2.2) 0 r (fun i s => (s, (i : Int), r)) (fun s x => s + x) (fun i s => 0 ≤ s ∧ s ≤ 12000 + 200 * (i : Int)) _ _ (by omega) (by omega) ?_ ?_
 ·intro i s hi hm hs
  have hx := h.w _ hm
  refine ⟨?_, by omega⟩
  show wK s i r = _
  unfold wK
  rw [zD hi, zg hi, zd, IntWalk.i64_in (r.getD i 0) (by omega), IntWalk.i64_in _ (by omega), zH (by omega)]
  rfl
 ·intro _
  show wK _ (r.length : Nat) r = _
  unfold wK
  rw [zS, cond_false]
  rfl
theorem zOw {r : List Int} {S : Int} (h : OKR r) (hS : 0 ≤ S ∧ S ≤ 200) : ze7 r S = some 0 := by
 unfold ze7
 rw [zUn h, show Ua S = true from zrp hS]
 rfl
theorem zro {r : List Int} {S : Int} (h : OKR r) (hS : 0 ≤ S ∧ S ≤ 200) : zm5 r S = some (zgG r S, 0) := by
 unfold zm5
 rw [zOw h hS]
 simp only [Option.bind]
 rw [zVg h hS]
 rfl
end Go.RR
namespace Go.RR
open Go
open Go.IntKind (wrap)
theorem zvm (n : Nat) (f : Nat → Int) : tbl (n + 1) f = tbl n f ++ [f n] := by simp [tbl, List.range_succ]
def evR (R : Int) (k : Nat) : List Int × Bool := if R < (k : Int) then ([], false) else (zaa R.toNat k, true)
theorem zSk {m k : Nat} (hk : 1 ≤ k) (hm : k ≤ m) (h2 : m ≤ 200) : 1 ≤ m / k ∧ m / k ≤ 200 ∧ (0 < m % k → m / k + 1 ≤ 200) := by
 have h1 : 1 ≤ m / k := (Nat.one_le_div_iff hk).2 hm
 have h3 : m / k ≤ m := Nat.div_le_self m k
 refine ⟨h1, by omega, fun h => ?_⟩
 have h4 := Nat.div_add_mod m k
 have h5 : 1 * (m / k) ≤ k * (m / k) := Nat.mul_le_mul_right _ hk
 omega
theorem zI5 {m k i : Nat} (hk : 1 ≤ k) (hm : k ≤ m) (h2 : m ≤ 200) : 1 ≤ YQ m k i ∧ YQ m k i ≤ 200 := by
 obtain ⟨h1, h3, h4⟩ := zSk hk hm h2
 unfold YQ
 split
 ·rename_i h
  have := h4 (by omega)
  omega
 ·omega
theorem zQF {R : Int} {k : Nat} (hk : 1 ≤ k ∧ k ≤ 60) (hR : R ≤ 200) (h : ¬ R < (k : Int)) : OKR (zaa R.toNat k) := by
 refine ⟨fun x hx => ?_, by rw [ziM]; exact hk.1, by rw [ziM]; exact hk.2⟩
 unfold zaa tbl at hx
 obtain ⟨i, _, rfl⟩ := List.mem_map.1 hx
 exact zI5 hk.1 (by omega) (by omega)
theorem zVB {R : Int} {k : Nat} (hk : 1 ≤ k ∧ k ≤ 60) (hR : -100000 ≤ R ∧ R ≤ 200) : ziR R (k : Int) = some (evR R k) := by
 unfold ziR zmV evR
 try dsimp (config := {proj := false, iota := false, eta := false}) only
 by_cases h : R < (k : Int)
 ·rw [decide_eq_true h, if_pos h]; rfl
 ·rw [decide_eq_false h, if_neg h, cond_false, IntWalk.i64_in ((k : Int) * 200) (by omega), decide_eq_false (show ¬ R > (k : Int) * 200 by omega), cond_false]
  obtain ⟨m, rfl⟩ : ∃ m : Nat, R = (m : Int) := ⟨R.toNat, by omega⟩
  rw [Int.toNat_natCast]
  obtain ⟨q1, q2, q3⟩ := zSk (m := m) hk.1 (by omega) (by omega)
  unfold zdb
  refine yp (step := fun x => W2 x.1 x.2.1 x.2.2.1 x.2.2.2.1 x.2.2.2.2) (τ := Unit) k (fun i _ => ((m : Int), (k : Int), (k : Int), (i : Int), tbl i (YQ m k))) (fun _ _ => ()) _ () (by omega) ?_ ?_
  ·intro i _ hi
   show W2 m k k i (tbl i (YQ m k)) = _
   unfold W2 ub
   try dsimp (config := {proj := false, iota := false, eta := false}) only
   rw [zD hi, decide_eq_false (show ¬ (k : Int) = 0 by omega), zH (by omega), show Int.tmod (m : Int) (k : Int) = ((m % k : Nat) : Int) from rfl, show Int.tdiv (m : Int) (k : Int) = ((m / k : Nat) : Int) from rfl, cond_true, cond_false, cond_false, zvm, IntWalk.i64_in ((m / k : Nat) : Int) (by omega)]
   by_cases hr : i < m % k
   ·have := q3 (by omega)
    rw [decide_eq_true (show (i : Int) < ((m % k : Nat) : Int) by omega), show YQ m k i = ((m / k + 1 : Nat) : Int) by unfold YQ; rw [if_pos hr], IntWalk.i64_in (((m / k : Nat) : Int) + 1) (by omega), IntWalk.i16_in (((m / k : Nat) : Int) + 1) (by omega), zG (by rw [zfE]; simp; omega)]
    rfl
   ·rw [decide_eq_false (show ¬ (i : Int) < ((m % k : Nat) : Int) by omega), cond_false, show YQ m k i = ((m / k : Nat) : Int) by unfold YQ; rw [if_neg hr, Nat.add_zero], IntWalk.i16_in ((m / k : Nat) : Int) (by omega), zG (by rw [zfE]; simp; omega)]
    rfl
  ·show W2 m k k k (tbl k (YQ m k)) = _
   unfold W2 ub
   try dsimp (config := {proj := false, iota := false, eta := false}) only
   rw [zS, cond_false]
   rfl
theorem zUK {L S : Int} {k : Nat} (hk : 1 ≤ k ∧ k ≤ 60) (hL : 1 ≤ L ∧ L ≤ 200) (hS : 0 ≤ S ∧ S ≤ 200) : zhr L S (k : Int) = some (evR (L - S * ((k : Int) - 1)) k) := by
 have hm := zrV (a := (k : Int) - 1) (b := S) (by omega) hS
 rw [Int.mul_comm] at hm
 unfold zhr zlm evR
 try dsimp (config := {proj := false, iota := false, eta := false}) only
 rw [IntWalk.i64_in ((k : Int) - 1) (by omega), IntWalk.i64_in (S * ((k : Int) - 1)) (by omega), IntWalk.i64_in (L - S * ((k : Int) - 1)) (by omega)]
 generalize hR : L - S * ((k : Int) - 1) = R
 by_cases h : R < (k : Int)
 ·rw [decide_eq_true h, if_pos h]; rfl
 ·rw [decide_eq_false h, if_neg h, cond_false]
  obtain ⟨m, rfl⟩ : ∃ m : Nat, R = (m : Int) := ⟨R.toNat, by omega⟩
  rw [Int.toNat_natCast]
  obtain ⟨q1, q2, q3⟩ := zSk (m := m) hk.1 (by omega) (by omega)
  unfold zd6
  refine yp (step := fun x => WX x.1 x.2.1 x.2.2.1 x.2.2.2) (τ := Unit) k (fun i _ => ((k : Int), (m : Int), (i : Int), tbl i (YQ m k))) (fun _ _ => ()) _ () (by omega) ?_ ?_
  ·intro i _ hi
   show WX k m i (tbl i (YQ m k)) = _
   unfold WX V6
   try dsimp (config := {proj := false, iota := false, eta := false}) only
   rw [zD hi, decide_eq_false (show ¬ (k : Int) = 0 by omega), zH (by omega), show Int.tmod (m : Int) (k : Int) = ((m % k : Nat) : Int) from rfl, show Int.tdiv (m : Int) (k : Int) = ((m / k : Nat) : Int) from rfl, cond_true, cond_false, cond_false, zvm, IntWalk.i64_in ((m / k : Nat) : Int) (by omega)]
   by_cases hr : i < m % k
   ·have := q3 (by omega)
    rw [decide_eq_true (show (i : Int) < ((m % k : Nat) : Int) by omega), show YQ m k i = ((m / k + 1 : Nat) : Int) by unfold YQ; rw [if_pos hr], IntWalk.i64_in (((m / k : Nat) : Int) + 1) (by omega), IntWalk.i16_in (((m / k : Nat) : Int) + 1) (by omega), zfW (by omega), zG (by rw [zfE]; simp; omega)]
    rfl
   ·rw [decide_eq_false (show ¬ (i : Int) < ((m % k : Nat) : Int) by omega), cond_false, show YQ m k i = ((m / k : Nat) : Int) by unfold YQ; rw [if_neg hr, Nat.add_zero], IntWalk.i16_in ((m / k : Nat) : Int) (by omega), zfW (by omega), zG (by rw [zfE]; simp; omega)]
    rfl
  ·show WX k m k (tbl k (YQ m k)) = _
   unfold WX V6
   try dsimp (config := {proj := false, iota := false, eta := false}) only
   rw [zS, cond_false]
   rfl
def zoT (L S : Int) (k : Nat) : List Int × Int := cond (evR (L - S * ((k : Int) - 1)) k).2 ((evR (L - S * ((k : Int) - 1)) k).1, 0) ([], 6)
theorem zTh {L S : Int} {k : Nat} (hk : 1 ≤ k ∧ k ≤ 60) (hL : 1 ≤ L ∧ L ≤ 200) (hS : 0 ≤ S ∧ S ≤ 200) : ziR (wrap .i64 (L - (wrap .i64 ((wrap .i64 ((k : Int) - 1)) * S)))) (k : Int) = some (evR (L - S * ((k : Int) - 1)) k) := by
 have hm := zrV (a := (k : Int) - 1) (b := S) (by omega) hS
 rw [IntWalk.i64_in ((k : Int) - 1) (by omega), IntWalk.i64_in (((k : Int) - 1) * S) (by omega), IntWalk.i64_in _ (by omega), Int.mul_comm S]
 exact zVB hk (by omega)
theorem zve {L S : Int} {k : Nat} (hk : 1 ≤ k ∧ k ≤ 60) (hL : 1 ≤ L ∧ L ≤ 200) (hS : 0 ≤ S ∧ S ≤ 200) : zoX L S (k : Int) = some (zoT L S k) := by
 unfold zoX ziS zoT
 try dsimp (config := {proj := false, iota := false, eta := false}) only
 rw [zTr (by omega), zrp hS, zFM (x := (k : Int)) (by omega), zTh hk hL hS]
 simp only [Option.bind, Bool.not_true, cond_false]
 cases (evR (L - S * ((k : Int) - 1)) k).2 <;> rfl
theorem zvO {L S : Int} {k : Nat} (hk : 1 ≤ k ∧ k ≤ 60) (hL : 1 ≤ L ∧ L ≤ 200) (hS : 0 ≤ S ∧ S ≤ 200) : zjI L S (k : Int) = some (zoT L S k) := by
 unfold zjI zoT
 rw [zNa (by omega) hS, zOJ (x := (k : Int)) (by omega), zUK hk hL hS]
 simp only [Option.bind, Bool.not_true, cond_false]
 cases (evR (L - S * ((k : Int) - 1)) k).2 <;> rfl
theorem zwK {L S : Int} {k : Nat} (hk : 1 ≤ k ∧ k ≤ 60) (h : ¬ L - S * ((k : Int) - 1) < (k : Int)) : zgG (zaa (L - S * ((k : Int) - 1)).toNat k) S = L := by
 rw [zDj, ziM, zSt hk.1, show ((k - 1 : Nat) : Int) = (k : Int) - 1 by omega, Int.mul_comm ((k : Int) - 1)]
 omega
section
variable {L S : Int} (hL : 1 ≤ L ∧ L ≤ 200) (hS : 0 ≤ S ∧ S ≤ 200)
include hL hS
end
end Go.RR
namespace Go.RR
open Go
open Go.IntKind (wrap)
theorem zdF {n : Nat} {k sd : Int} {l : List Int} (hl : Byt l) (hn : n ≤ 10000) (hk : 1 < k ∧ k ≤ 200) : ∃ (x m : Nat) (sd' : Int), zm k (n : Int) sd l = some ((x : Int), (m : Int), sd') ∧ (x : Int) < k ∧ n ≤ m ∧ m ≤ n + 2 := by
 obtain ⟨x, m, sd', e, _, h2, h3, h4⟩ := y5 (n := n) (k := k) (sd := sd) hl hn (by omega)
 obtain ⟨h5, h6⟩ := h2 hk.1
 exact ⟨x.toNat, m, sd', by rw [e, Int.toNat_of_nonneg h5], by omega, h3, h4⟩
def OK9 (r : List Int) : Prop := ∀ x ∈ r, 1 ≤ x ∧ x ≤ 9
theorem zpj {l : List Int} (hl : Byt l) : ∀ (k n M : Nat) (sd : Int) (r : List Int), k < M → n + 2 * k ≤ 1000 → OK9 r → 1 ≤ r.length → r.length + k ≤ 6 →
  ∃ (m : Nat) (sd' : Int) (r' : List Int), zI (fun x => yL x.1 x.2.1 x.2.2.1 x.2.2.2.1 x.2.2.2.2) M ((k : Int), (n : Int), sd, l, r) = some ((m : Int), sd', r') ∧ OK9 r' ∧ 1 ≤ r'.length ∧ r'.length ≤ 6
 | 0, n, M + 1, sd, r, _, _, h1, h2, h3 => by
  refine ⟨n, sd, r, xZ ?_, h1, h2, by omega⟩
  show yL 0 n sd l r = _
  unfold yL
  rfl
 | k + 1, n, M + 1, sd, r, hm, hn, h1, h2, h3 => by
  obtain ⟨x, m, sd', e, e1, e2, e3⟩ := zdF (n := n) (k := 9) (sd := sd) hl (by omega) (by omega)
  have hs : yL ((k + 1 : Nat) : Int) n sd l r = some (.inl ((k : Int), (m : Int), sd', l, r ++ [1 + (x : Int)])) := by
   unfold yL
   rw [decide_eq_true (show ((k + 1 : Nat) : Int) > 0 by omega), e]
   simp only [cond_true, Option.bind]
   rw [IntWalk.i64_in (1 + (x : Int)) (by omega), IntWalk.i16_in (1 + (x : Int)) (by omega), IntWalk.i64_in (((k + 1 : Nat) : Int) - 1) (by omega), zG (by simp; omega), show ((k + 1 : Nat) : Int) - 1 = (k : Int) by omega]
   rfl
  rw [Wh (step := fun x => yL x.1 x.2.1 x.2.2.1 x.2.2.2.1 x.2.2.2.2) (x := (((k + 1 : Nat) : Int), (n : Int), sd, l, r)) hs]
  refine zpj hl k m M sd' _ (by omega) (by omega) (fun y hy => ?_) (by simp) (by simp; omega)
  rcases List.mem_append.1 hy with hy | hy
  ·exact h1 y hy
  ·rw [List.mem_singleton] at hy; omega
 | k, n, 0, _, _, hm, _, _, _, _ => by omega
theorem zL4 {l : List Int} (hl : Byt l) : ∃ r, zlP l = some r ∧ OK9 r ∧ 1 ≤ r.length ∧ r.length ≤ 6 := by
 obtain ⟨x, m, sd, e, e1, _, e3⟩ := zdF (n := 0) (k := 9) (sd := 0) hl (by omega) (by omega)
 obtain ⟨y, m2, sd2, f, f1, _, f3⟩ := zdF (n := m) (k := 6) (sd := sd) hl (by omega) (by omega)
 obtain ⟨m3, sd3, r, g, g1, g2, g3⟩ := zpj hl y m2 FU sd2 [1 + (x : Int)] (yC (ym (by omega))) (by omega) (fun z hz => by rw [List.mem_singleton] at hz; omega) (by simp) (by simp; omega)
 refine ⟨r, ?_, g1, g2, g3⟩
 have e : zm 9 (zx l).1 (zx l).2 l = some ((x : Int), (m : Int), sd) := e
 unfold zlP Zi
 rw [e]
 simp only [Option.bind]
 rw [f]
 simp only
 rw [IntWalk.i64_in (1 + (x : Int)) (by omega), IntWalk.i16_in (1 + (x : Int)) (by omega)]
 unfold XR
 rw [g]
end Go.RR
