/- Plain facts of slots and plans; the plain laws of ValidSlots, FirstWrongSlot, LengthOfPlan and BusyOn. -/
import Derived.Test.YtbmaolhjplapoaaGreatWk
import Derived.Test.YtbmaolhjplapoaaGreatVq
import Derived.Test.YtbmaolhjplapoaaGreatVm
set_option linter.unusedVariables false
set_option linter.unusedSimpArgs false
namespace Go.RR
open Go
open Go.IntKind (wrap)
abbrev zX := Int × Int
noncomputable def yN (l : List Job) (p : List zX) (k : Nat) : Int := wrap .i64 (wrap .i64 (p.getD k (0, 0)).2 + wrap .i64 (l.getD k (0, 0)).1)
theorem zms {l : List Job} {p : List zX} {k : Nat} (hk : k < l.length) (hk2 : k < p.length) : zcg l p k = some (yN l p k) := by
 unfold zcg zlj
 try dsimp (config := {proj := false, iota := false, eta := false}) only
 rw [zg hk, zg hk2, zd]; rfl
theorem zEC (a b : Nat) : (((a : Nat) : Int) == ((b : Nat) : Int)) = decide (a = b) := by
 by_cases h : a = b
 ·subst h; simp
 ·rw [decide_eq_false h]
  exact beq_eq_false_iff_ne.2 (by omega)
theorem zS9 (a b : Nat) : (((a : Nat) : Int) != ((b : Nat) : Int)) = !decide (a = b) := by
 rw [← zEC]; rfl
noncomputable def Xs (l : List Job) (p : List zX) : Int := (List.range' 0 l.length).foldl (fun (m : Int) k => max m (yN l p k)) 0
theorem zSL {l : List Job} {p : List zX} (hn : l.length ≤ 12) (hp : p.length = l.length) : zfU l p = some (Xs l p) := by
 unfold zfU zdm
 refine yp (step := fun x => wr x.1 x.2.1 x.2.2.1 x.2.2.2) l.length (fun i (m : Int) => (m, (i : Int), l, p)) (fun m k => max m (yN l p k)) _ 0 (by omega) ?_ ?_
 ·intro i m hi
  show wr m i l p = _
  unfold wr
  rw [zD hi, zms hi (by omega), zH (by omega), cond_true]
  simp only [Option.bind, Uy]
 ·show wr _ (l.length : Nat) l p = _
  unfold wr
  rw [zS, cond_false]; rfl
end Go.RR
namespace Go.RR
open Go
open Go.IntKind (wrap)
theorem zT4 {q : Nat} (hq : q < 12) : yl .u16 1 (q : Int) = ((2 ^ q : Nat) : Int) ∧ 1 ≤ 2 ^ q ∧ 2 ^ q ≤ 4096 := by
 have h1 : 2 ^ q ≤ 2 ^ 12 := Nat.pow_le_pow_right (by decide) (by omega)
 have h2 : 0 < 2 ^ q := Nat.pow_pos (by decide)
 have h1 : 2 ^ q ≤ 4096 := h1
 refine ⟨?_, h2, h1⟩
 unfold yl
 have hm : min (Int.toNat (q : Int)) IntKind.u16.bits = q := by
  rw [zd]
  exact Nat.min_eq_left (by show q ≤ 16; omega)
 rw [hm, Int.one_mul, show ((2 : Int) ^ q) = ((2 ^ q : Nat) : Int) by rw [Int.natCast_pow]; rfl]
 exact IntWalk.u16_in _ (by omega)
theorem zit {x : Int} (hx : 0 ≤ x) {k : Nat} (hk : k < 16) : yz .u16 x k % 2 = cond (x.toNat.testBit k) 1 0 := by
 unfold yz
 have hm : min (Int.toNat (k : Int)) IntKind.u16.bits = k := by
  rw [zd]
  exact Nat.min_eq_left (by show k ≤ 16; omega)
 rw [hm]
 obtain ⟨n, rfl⟩ : ∃ n : Nat, x = (n : Int) := ⟨x.toNat, (Int.toNat_of_nonneg hx).symm⟩
 have hp : (0 : Int) < 2 ^ k := Int.pow_pos (by decide)
 rw [Int.fdiv_eq_ediv_of_nonneg _ (Int.le_of_lt hp), zd, show ((2 : Int) ^ k) = ((2 ^ k : Nat) : Int) by rw [Int.natCast_pow]; rfl]
 have : ((n : Int) / ((2 ^ k : Nat) : Int)) % 2 = ((n / 2 ^ k % 2 : Nat) : Int) := by omega
 rw [this, Nat.testBit_eq_decide_div_mod_eq]
 by_cases h : n / 2 ^ k % 2 = 1
 ·rw [h, decide_eq_true rfl]; rfl
 ·rw [show n / 2 ^ k % 2 = 0 by omega]; rfl
theorem zBA {a b : Int} (ha : 0 ≤ a ∧ a ≤ 65535) (hb : 0 ≤ b ∧ b ≤ 65535) : (bOr .u16 a b).toNat = a.toNat ||| b.toNat ∧ 0 ≤ bOr .u16 a b ∧ bOr .u16 a b ≤ 65535 := by
 have e : (BitVec.ofInt IntKind.u16.bits a ||| BitVec.ofInt IntKind.u16.bits b).toNat = a.toNat ||| b.toNat := by
  show (BitVec.ofInt 16 a ||| BitVec.ofInt 16 b).toNat = _
  rw [BitVec.toNat_or, BitVec.toNat_ofInt, BitVec.toNat_ofInt]
  have h1 : (a % ((2 ^ 16 : Nat) : Int)).toNat = a.toNat := by
   have : ((2 ^ 16 : Nat) : Int) = 65536 := rfl
   rw [this]; omega
  have h2 : (b % ((2 ^ 16 : Nat) : Int)).toNat = b.toNat := by
   have : ((2 ^ 16 : Nat) : Int) = 65536 := rfl
   rw [this]; omega
  rw [h1, h2]
 have hlt : a.toNat ||| b.toNat < 2 ^ 16 := Nat.or_lt_two_pow (by show a.toNat < 65536; omega) (by show b.toNat < 65536; omega)
 have hlt : a.toNat ||| b.toNat < 65536 := hlt
 have e2 : bOr .u16 a b = ((a.toNat ||| b.toNat : Nat) : Int) := by
  unfold bOr
  rw [e]
  exact IntWalk.u16_in _ (by omega)
 rw [e2]
 exact ⟨rfl, by omega, by omega⟩
theorem zkR {a b : Int} (ha : 0 ≤ a ∧ a ≤ 65535) (hb : 0 ≤ b ∧ b ≤ 65535) (h : zO .u16 a b = 0) {k : Nat} (hk : a.toNat.testBit k = true) : b.toNat.testBit k = true := by
 unfold zO at h
 have hk16 : k < 16 := by
  apply Classical.byContradiction
  intro hge
  have hlt : a.toNat < 2 ^ k := Nat.lt_of_lt_of_le (show a.toNat < 2 ^ 16 by show a.toNat < 65536; omega) (Nat.pow_le_pow_right (by decide) (by omega))
  rw [Nat.testBit_lt_two_pow hlt] at hk
  cases hk
 have hl : (BitVec.ofInt IntKind.u16.bits a &&& ~~~BitVec.ofInt IntKind.u16.bits b).toNat < 65536 := (BitVec.ofInt 16 a &&& ~~~BitVec.ofInt 16 b).isLt
 rw [IntWalk.u16_in _ (by omega)] at h
 have h0 : (BitVec.ofInt 16 a &&& ~~~BitVec.ofInt 16 b).toNat = 0 := by
  have : ((BitVec.ofInt 16 a &&& ~~~BitVec.ofInt 16 b).toNat : Int) = 0 := h
  omega
 have hz : BitVec.ofInt 16 a &&& ~~~BitVec.ofInt 16 b = 0#16 := BitVec.eq_of_toNat_eq h0
 have hb1 : (BitVec.ofInt 16 a &&& ~~~BitVec.ofInt 16 b).getLsbD k = false := by rw [hz]; simp
 rw [BitVec.getLsbD_and, BitVec.getLsbD_not] at hb1
 have g1 : (BitVec.ofInt 16 a).getLsbD k = true := by
  show (BitVec.ofInt 16 a).toNat.testBit k = true
  rw [BitVec.toNat_ofInt]
  have : (a % ((2 ^ 16 : Nat) : Int)).toNat = a.toNat := by
   have : ((2 ^ 16 : Nat) : Int) = 65536 := rfl
   rw [this]; omega
  rw [this]; exact hk
 have g2 : (BitVec.ofInt 16 b).getLsbD k = b.toNat.testBit k := by
  show (BitVec.ofInt 16 b).toNat.testBit k = _
  rw [BitVec.toNat_ofInt]
  have : (b % ((2 ^ 16 : Nat) : Int)).toNat = b.toNat := by
   have : ((2 ^ 16 : Nat) : Int) = 65536 := rfl
   rw [this]; omega
  rw [this]
 rw [g1, g2] at hb1
 simpa [hk16] using hb1
theorem zgq {l : List Job} (hj : yh l) {i k : Nat} (hi : i < l.length) (hk : k < 16) : ya l i k = (l.getD i (0, 0)).2.toNat.testBit k := by
 unfold ya
 rw [zit (zka hj hi) hk]
 cases (l.getD i (0, 0)).2.toNat.testBit k <;> rfl
structure zPB (l : List Job) (done : Int) (out : List Int) : Prop where
 rng : 0 ≤ done ∧ done ≤ 65535
 mem : ∀ x ∈ out, ∃ j : Nat, j < l.length ∧ x = (j : Int)
 bit : ∀ j : Nat, j < 16 → (done.toNat.testBit j = true ↔ (j : Int) ∈ out)
 nd : out.Nodup
 top : ∀ (a b : List Int) (i k : Nat), out = a ++ (i : Int) :: b → i < l.length → ya l i k = true → k < 16 → (k : Int) ∈ a
theorem zGd {l : List Job} (hj : yh l) (hn : l.length ≤ 12) {done : Int} {out : List Int} (h : zPB l done out) {j : Nat} (hp : pick l done = some j) : zPB l (bOr .u16 done (yl .u16 1 j)) (out ++ [(j : Int)]) := by
 have hjl := zey hp
 obtain ⟨s1, s2, s3⟩ := zT4 (q := j) (by omega)
 have hr : ready l done j = true := by
  have := List.find?_some hp
  exact this
 unfold ready at hr
 have hs : 0 ≤ yl .u16 1 (j : Int) ∧ yl .u16 1 (j : Int) ≤ 65535 := by rw [s1]; omega
 obtain ⟨o1, o2, o3⟩ := zBA h.rng hs
 have hbit : ∀ k, (bOr .u16 done (yl .u16 1 j)).toNat.testBit k = (done.toNat.testBit k || decide (j = k)) := by
  intro k
  rw [o1, Nat.testBit_or, s1, zd, Nat.testBit_two_pow]
 have hnb : done.toNat.testBit j = false := by
  rw [zit h.rng.1 (by omega)] at hr
  cases hb : done.toNat.testBit j
  ·rfl
  ·rw [hb] at hr; cases hr
 have hab : zO .u16 (l.getD j (0, 0)).2 done = 0 := by
  cases hb : (yz .u16 done j % 2 == 0)
  ·rw [hb] at hr; cases hr
  ·rw [hb] at hr
   simpa using hr
 have hnot : (j : Int) ∉ out := fun hm => by
  rw [(h.bit j (by omega)).2 hm] at hnb; cases hnb
 refine ⟨⟨o2, o3⟩, fun x hx => ?_, fun k hk => ?_, ?_, fun a b i k he hi hw hk => ?_⟩
 ·rcases List.mem_append.1 hx with hx | hx
  ·exact h.mem x hx
  ·simp at hx; exact ⟨j, hjl, hx⟩
 ·rw [hbit]
  constructor
  ·intro hb
   rcases Bool.or_eq_true _ _ ▸ hb with hb | hb
   ·exact List.mem_append_left _ ((h.bit k hk).1 hb)
   ·rw [of_decide_eq_true hb]; simp
  ·intro hm
   rcases List.mem_append.1 hm with hm | hm
   ·rw [(h.bit k hk).2 hm]; rfl
   ·have : k = j := by simp at hm; omega
    subst this
    simp
 ·rw [List.nodup_append]
  refine ⟨h.nd, by simp, fun x hx y hy => ?_⟩
  simp at hy
  subst hy
  intro hxy
  subst hxy
  exact hnot hx
 ·rcases List.eq_nil_or_concat b with hb | ⟨b', y, hb⟩
  ·subst hb
   have he' : out ++ [(j : Int)] = a ++ [(i : Int)] := he
   have h1 := (List.append_inj' he' rfl)
   have hij : j = i := by have := h1.2; simp at this; omega
   subst hij
   rw [← h1.1]
   refine (h.bit k hk).1 (zkR (hj _ (zR hjl)).2 h.rng hab ?_)
   rw [← zgq hj hjl hk]; exact hw
  ·subst hb
   have he' : out ++ [(j : Int)] = (a ++ (i : Int) :: b') ++ [y] := by rw [he]; simp
   have h1 := (List.append_inj' he' rfl)
   exact h.top a b' i k h1.1 hi hw hk
theorem zyr {l : List Job} (hj : yh l) (hn : l.length ≤ 12) : ∀ (k : Nat) (done : Int) (out : List Int), zPB l done out → ∃ done', zPB l done' (ZE l k done out).1
 | 0, done, out, h => ⟨done, h⟩
 | k + 1, done, out, h => by
  unfold ZE
  cases hp : pick l done with
  | none => exact ⟨done, h⟩
  | some j => exact zyr hj hn k _ _ (zGd hj hn h hp)
noncomputable def xe (l : List Job) : List Int := (ZE l l.length 0 []).1
theorem zSI {l : List Job} (hj : yh l) (hn : l.length ≤ 12) : ∃ done, zPB l done (xe l) :=
 zyr hj hn l.length 0 [] ⟨by omega, fun x hx => by simp at hx, fun j _ => by simp, by simp, fun a b i k he => by simp at he⟩
theorem yU {α : Type} {l : List α} {i : Nat} (d : α) (h : i < l.length) : l.getD i d = l[i] := by
 rw [List.getD_eq_getElem?_getD, List.getElem?_eq_getElem h]; rfl
noncomputable def WR (l : List Int) (i : Nat) : List Int := (List.range l.length).map fun k => if k < i ∨ l.length - i ≤ k then l.getD (l.length - 1 - k) 0 else l.getD k 0
theorem YO (l : List Int) (i : Nat) : (WR l i).length = l.length := by simp [WR]
theorem Wi {l : List Int} {i k : Nat} (h : k < l.length) : (WR l i).getD k 0 = if k < i ∨ l.length - i ≤ k then l.getD (l.length - 1 - k) 0 else l.getD k 0 := by
 rw [yU 0 (by rw [YO]; exact h)]
 simp [WR]
theorem zAC (l : List Int) : WR l 0 = l := by
 apply List.ext_getElem (YO l 0)
 intro k h1 h2
 rw [← yU 0 h1, ← yU 0 h2, Wi h2, if_neg (by omega)]
theorem zJk (l : List Int) : WR l (l.length / 2) = l.reverse := by
 apply List.ext_getElem (by rw [YO]; simp)
 intro k h1 h2
 have hk : k < l.length := by simpa using h2
 rw [← yU 0 h1, Wi hk, List.getElem_reverse]
 split
 ·rw [yU 0 (by omega)]
 ·have : l.length - 1 - k = k := by omega
  rw [yU 0 hk]
  simp only [this]
theorem zBt {l : List Int} (hn : l.length ≤ 1000000) : yD l = some l.reverse := by
 unfold yD ZB
 rw [IntWalk.i64_in (((l.length : Nat) : Int) - 1) (by omega)]
 have key := yp (step := fun x => yi x.1 x.2.1 x.2.2) (τ := Unit) (l.length / 2) (fun i _ => ((i : Int), ((l.length : Nat) : Int) - 1 - (i : Int), WR l i)) (fun _ _ => ()) l.reverse () (by omega) ?_ ?_
 ·have key : zI (fun x => yi x.1 x.2.1 x.2.2) FU (((0 : Nat) : Int), ((l.length : Nat) : Int) - 1 - ((0 : Nat) : Int), WR l 0) = some l.reverse := key
  rw [zAC] at key
  simpa using key
 ·intro i _ hi
  show yi i (((l.length : Nat) : Int) - 1 - (i : Int)) (WR l i) = _
  have e1 : ((l.length : Nat) : Int) - 1 - (i : Int) = ((l.length - 1 - i : Nat) : Int) := by omega
  unfold yi
  rw [e1, zD (show i < l.length - 1 - i by omega), List.length_set, YO, zg (show i < l.length by omega), zg (show l.length - 1 - i < l.length by omega), zd, zd, zH (by omega), IntWalk.i64_in (((l.length - 1 - i : Nat) : Int) - 1) (by omega)]
  simp only [cond_true]
  have e2 : ((l.length - 1 - i : Nat) : Int) - 1 = ((l.length : Nat) : Int) - 1 - ((i + 1 : Nat) : Int) := by omega
  rw [e2]
  have hA := Wi (i := i) (show l.length - 1 - i < l.length by omega)
  have hB := Wi (i := i) (show i < l.length by omega)
  rw [if_neg (by omega)] at hA hB
  have e3 : List.set (List.set (WR l i) i (List.getD (WR l i) (l.length - 1 - i) 0)) (l.length - 1 - i) (List.getD (WR l i) i 0) = WR l (i + 1) := by
   rw [hA, hB]
   apply List.ext_getElem (by rw [List.length_set, List.length_set, YO, YO])
   intro k h1 h2
   have hk : k < l.length := by rw [YO] at h2; exact h2
   rw [List.getElem_set, List.getElem_set, ← yU 0 h2, Wi hk]
   by_cases c1 : l.length - 1 - i = k
   ·rw [if_pos c1, if_pos (by omega)]
    congr 1; omega
   ·rw [if_neg c1]
    by_cases c2 : i = k
    ·rw [if_pos c2, if_pos (by omega)]
     congr 1; omega
    ·have hk1 : k < (WR l i).length := by rw [YO]; exact hk
     rw [if_neg c2, ← yU 0 hk1, Wi hk]
     by_cases c3 : k < i ∨ l.length - i ≤ k
     ·rw [if_pos c3, if_pos (by omega)]
     ·rw [if_neg c3, if_neg (by omega)]
  rw [e3]
 ·show yi ((l.length / 2 : Nat) : Int) (((l.length : Nat) : Int) - 1 - ((l.length / 2 : Nat) : Int)) (WR l (l.length / 2)) = _
  unfold yi
  rw [decide_eq_false (by omega), cond_false, zJk]
noncomputable def Ut (l : List Job) (st : List Int) (j : Nat) (ks : List Nat) (m : Int) : Int := ks.foldl (fun m k => cond (ya l k j) (max m (st.getD k 0)) m) m
noncomputable def Wd (l : List Job) (st : List Int) (x : Int) : List Int := st.set x.toNat (wrap .i64 (Ut l st x.toNat (List.range' 0 l.length) 0 + wrap .i64 (l.getD x.toNat (0, 0)).1))
noncomputable def ZH (l : List Job) : List Int := (xe l).reverse.foldl (Wd l) (List.replicate l.length 0)
theorem zbO {l : List Job} {st : List Int} {x : Int} : (Wd l st x).length = st.length := by simp [Wd]
theorem zpA {l : List Job} : ∀ (xs : List Int) (st : List Int), (xs.foldl (Wd l) st).length = st.length
 | [], st => rfl
 | x :: xs, st => by rw [List.foldl_cons, zpA xs, zbO]
theorem zgC {l : List Job} : (ZH l).length = l.length := by unfold ZH; rw [zpA]; simp
theorem zxz {l : List Job} (hj : yh l) (hn : l.length ≤ 12) {ord st : List Int} {o : Int} {j : Nat} (hjl : j < l.length) (ho : -1 ≤ o - 1 ∧ o ≤ 1000) (hst : st.length = l.length) :
  uN (o, (j : Int), 0, 0, l, ord, st) = some (Sum.inl (o - 1, l, ord, Wd l st j)) := by
 unfold uN
 refine yp (step := fun x => wu x.1 x.2.1 x.2.2.1 x.2.2.2.1 x.2.2.2.2.1 x.2.2.2.2.2.1 x.2.2.2.2.2.2) l.length (fun k (m : Int) => (o, (j : Int), m, (k : Int), l, ord, st)) (fun m k => cond (ya l k j) (max m (st.getD k 0)) m) _ 0 (by omega) ?_ ?_
 ·intro k m hk
  show wu o j m k l ord st = _
  unfold wu
  rw [zD hk, zpu hj hk (by omega), zg (show k < st.length by omega), zd, zH (by omega), Uy]
  simp only [cond_true, Option.bind]
  cases ya l k j <;> rfl
 ·show wu o j (Ut l st j (List.range' 0 l.length) 0) (l.length : Nat) l ord st = _
  unfold wu
  rw [zS, cond_false, zg hjl, zg (show j < st.length by omega), zd, IntWalk.i64_in (o - 1) (by omega)]
  rfl
theorem zF9 {l : List Job} (hj : yh l) (hn : l.length ≤ 12) (hv : (ZE l l.length 0 []).2 = true) : zeM l = some (ZH l) := by
 unfold zeM
 rw [zpo hn, hv, cond_true, Option.bind_some]
 rw [zom _ _ (by omega), cond_true, zd]
 have hol := zEY (l := l)
 have hor := zsk (l := l)
 show uo (wrap .i64 ((((xe l).length : Nat) : Int) - 1), l, xe l, List.replicate l.length 0) = _
 have hol : (xe l).length ≤ l.length := hol
 have hor : ∀ x ∈ xe l, ∃ j : Nat, j < l.length ∧ x = (j : Int) := hor
 rw [IntWalk.i64_in ((((xe l).length : Nat) : Int) - 1) (by omega)]
 unfold uo
 have hrl : (xe l).reverse.length = (xe l).length := by simp
 have key := zbJ (step := fun x => wv x.1 x.2.1 x.2.2.1 x.2.2.2) (0 : Int) (xe l).reverse (fun k (st : List Int) => ((((xe l).length : Nat) : Int) - 1 - (k : Int), l, xe l, st)) (Wd l) (fun _ st => st.length = l.length) (ZH l) (List.replicate l.length 0) (by omega) (by simp) ?_ ?_
 ·simpa using key
 ·intro k st hk hm hI
  refine ⟨?_, by rw [zbO]; exact hI⟩
  show wv ((((xe l).length : Nat) : Int) - 1 - (k : Int)) l (xe l) st = _
  have hk' : k < (xe l).length := by omega
  have e1 : (((xe l).length : Nat) : Int) - 1 - (k : Int) = (((xe l).length - 1 - k : Nat) : Int) := by omega
  have hg : (xe l).getD ((xe l).length - 1 - k) 0 = (xe l).reverse.getD k 0 := by
   rw [yU 0 (by omega), yU 0 hk, List.getElem_reverse]
  obtain ⟨j, hjl, ej⟩ := hor _ (List.mem_reverse.1 hm)
  unfold wv
  rw [e1, decide_eq_true (show (((xe l).length - 1 - k : Nat) : Int) ≥ 0 by omega), zg (show (xe l).length - 1 - k < (xe l).length by omega), zd, hg, ej]
  simp only [cond_true]
  rw [zxz hj hn hjl (by omega) hI]
  congr 2
  show ((((xe l).length - 1 - k : Nat) : Int) - 1, l, xe l, Wd l st j) = (_, _, _, _)
  congr 1
  omega
 ·intro _
  show wv ((((xe l).length : Nat) : Int) - 1 - (((xe l).reverse.length : Nat) : Int)) l (xe l) _ = _
  unfold wv
  rw [decide_eq_false (by omega), cond_false]
  rfl
noncomputable def zcf (l : List Job) (j : Nat) (st : List Int) (k : Nat) : List Int := cond (ya l k j) (st.set j (max (st.getD j 0) (st.getD k 0))) st
theorem zID {l : List Job} {j k : Nat} {st : List Int} : (zcf l j st k).length = st.length := by
 unfold zcf; cases ya l k j <;> simp
theorem zje {α : Type} {st : List α} {j k : Nat} {m d : α} (h : j ≠ k) : (st.set j m).getD k d = st.getD k d := by
 rw [List.getD_eq_getElem?_getD, List.getElem?_set_ne h, List.getD_eq_getElem?_getD]
theorem zdf {α : Type} {st : List α} {j : Nat} {m d : α} (h : j < st.length) : (st.set j m).getD j d = m := by
 rw [List.getD_eq_getElem?_getD, List.getElem?_set_self h]; rfl
theorem zc8 {l : List Job} {j : Nat} {st : List Int} (hjl : j < st.length) (h0 : st.getD j 0 = 0) : ∀ (ks : List Nat) (m : Int), 0 ≤ m → ks.foldl (zcf l j) (st.set j m) = st.set j (Ut l st j ks m)
 | [], m, hm => rfl
 | k :: ks, m, hm => by
  unfold Ut
  rw [List.foldl_cons, List.foldl_cons]
  cases hw : ya l k j
  ·have e : zcf l j (st.set j m) k = st.set j m := by unfold zcf; rw [hw]; rfl
   rw [e]
   exact zc8 hjl h0 ks m hm
  ·have e : zcf l j (st.set j m) k = st.set j (max m (st.getD k 0)) := by
    unfold zcf
    rw [hw, cond_true, zdf hjl, List.set_set]
    by_cases hk : j = k
    ·subst hk
     rw [zdf hjl, h0]
     congr 1; omega
    ·rw [zje hk]
   rw [e]
   exact zc8 hjl h0 ks _ (by omega)
theorem zK9 {st : List Int} {j : Nat} (h : j < st.length) (h0 : st.getD j 0 = 0) : st.set j 0 = st := by
 rw [yU 0 h] at h0
 rw [← h0]
 exact List.set_getElem_self h
theorem zwR {l : List Job} (hj : yh l) (hn : l.length ≤ 12) {rev st : List Int} {m : Int} {o j : Nat} (hjl : j < l.length) (ho : o ≤ 1000) (hst : st.length = l.length) (h0 : st.getD j 0 = 0) :
  uP ((j : Int), m, (o : Int), ((l.length : Nat) : Int), 0, l, st, rev) = some (Sum.inl (m, ((o + 1 : Nat) : Int), l, Wd l st j, rev)) := by
 unfold uP
 refine yK (step := fun x => Wv x.1 x.2.1 x.2.2.1 x.2.2.2.1 x.2.2.2.2.1 x.2.2.2.2.2.1 x.2.2.2.2.2.2.1 x.2.2.2.2.2.2.2) l.length (fun k (s : List Int) => ((j : Int), m, (o : Int), ((l.length : Nat) : Int), (k : Int), l, s, rev)) (zcf l j) (fun _ s => s.length = l.length) _ st (by omega) hst ?_ ?_
 ·intro k s hk hI
  refine ⟨?_, by rw [zID]; exact hI⟩
  show Wv j m o (l.length : Nat) k l s rev = _
  unfold Wv uw
  try dsimp (config := {proj := false, iota := false, eta := false}) only
  rw [zD hk, zg hk, zd, zgx hj hk, zg (show k < s.length by omega), zg (show j < s.length by omega), zd, zH (by omega)]
  simp only [cond_true, Option.bind]
  unfold zcf
  cases ya l k j <;> rfl
 ·intro hI
  have e : (List.range' 0 l.length).foldl (zcf l j) st = st.set j (Ut l st j (List.range' 0 l.length) 0) := by
   have := zc8 (l := l) (by omega) h0 (List.range' 0 l.length) 0 (by omega)
   rwa [zK9 (by omega) h0] at this
  rw [e] at hI ⊢
  show Wv j m o (l.length : Nat) (l.length : Nat) l (st.set j (Ut l st j (List.range' 0 l.length) 0)) rev = _
  unfold Wv uw
  try dsimp (config := {proj := false, iota := false, eta := false}) only
  rw [zS, cond_false, zg (show j < (st.set j (Ut l st j (List.range' 0 l.length) 0)).length by omega), zg hjl, zd, zdf (by omega), List.set_set, zH (by omega)]
  rfl
theorem zGT {l : List Job} (hj : yh l) (hn : l.length ≤ 12) : zgT l = some (ZH l) := by
 unfold zgT zi9
 try dsimp (config := {proj := false, iota := false, eta := false}) only
 rw [zom _ _ (by omega), cond_true, zd, zpx hn]
 simp only [Option.bind]
 have hol : (xe l).length ≤ l.length := zEY
 have hor : ∀ x ∈ xe l, ∃ j : Nat, j < l.length ∧ x = (j : Int) := zsk
 obtain ⟨done, hoi⟩ := zSI hj hn
 have hr : yD (ZE l l.length 0 []).1 = some (xe l).reverse := zBt (by show (xe l).length ≤ 1000000; omega)
 rw [hr]
 dsimp only
 unfold zda
 have hrl : (xe l).reverse.length = (xe l).length := by simp
 refine zbJ (step := fun x => WZ x.1 x.2.1 x.2.2.1 x.2.2.2.1 x.2.2.2.2) (0 : Int) (xe l).reverse (fun k (st : List Int) => ((((xe l).reverse.length : Nat) : Int), (k : Int), l, st, (xe l).reverse)) (Wd l) (fun k st => st.length = l.length ∧ ∀ i, k ≤ i → i < (xe l).reverse.length → st.getD ((xe l).reverse.getD i 0).toNat 0 = 0) (ZH l) (List.replicate l.length 0) (by omega) ?_ ?_ ?_
 ·refine ⟨by simp, fun i _ hi => ?_⟩
  have hm : (xe l).reverse.getD i 0 ∈ xe l := List.mem_reverse.1 (zR hi)
  obtain ⟨j, hjl, ej⟩ := hor _ hm
  rw [ej, zd, yU 0 (by simpa using hjl)]
  simp
 ·intro k st hk hm hI
  obtain ⟨j, hjl, ej⟩ := hor _ (List.mem_reverse.1 hm)
  have h0 : st.getD j 0 = 0 := by
   have := hI.2 k (Nat.le_refl k) hk
   rwa [ej, zd] at this
  refine ⟨?_, by rw [zbO]; exact hI.1, fun i h1 h2 => ?_⟩
  ·show WZ (((xe l).reverse.length : Nat) : Int) k l st (xe l).reverse = _
   unfold WZ uj
   try dsimp (config := {proj := false, iota := false, eta := false}) only
   rw [zD hk, zg hk, zd, ej]
   simp only [cond_true]
   rw [zwR hj hn hjl (by omega) hI.1 h0]
  ·obtain ⟨i', hil, ei⟩ := hor _ (List.mem_reverse.1 (zR (d := (0 : Int)) h2))
   have hne : j ≠ i' := by
    intro he
    subst he
    have hnd : (xe l).reverse.Nodup := List.pairwise_reverse.2 (hoi.nd.imp Ne.symm)
    rw [yU 0 hk] at ej
    rw [yU 0 h2] at ei
    have := (List.getElem_inj (h₀ := hk) (h₁ := h2) hnd).1 (ej.trans ei.symm)
    omega
   have hz := hI.2 i (by omega) h2
   rw [ei, zd] at hz ⊢
   rw [ej]
   unfold Wd
   rw [zd, zje hne]
   exact hz
 ·intro _
  show WZ (((xe l).reverse.length : Nat) : Int) (((xe l).reverse.length : Nat) : Int) l _ (xe l).reverse = _
  unfold WZ uj
  try dsimp (config := {proj := false, iota := false, eta := false}) only
  rw [zS, cond_false]
  rfl
noncomputable def zvD (l : List Job) : Int := (ZH l).foldl (fun (m : Int) x => max m x) 0
theorem zOy {l : List Job} (hj : yh l) (hn : l.length ≤ 12) (hv : (ZE l l.length 0 []).2 = true) : zhi l = some (zvD l) := by
 unfold zhi
 rw [zF9 hj hn hv]
 simp only [Option.bind]
 have hl := zgC (l := l)
 unfold zdP
 refine zfq (step := fun x => wA x.1 x.2.1 x.2.2) (0 : Int) (ZH l) (fun i (m : Int) => (m, (i : Int), ZH l)) (fun m x => max m x) _ 0 (by omega) ?_ ?_
 ·intro i m hi _
  show wA m i (ZH l) = _
  unfold wA
  rw [zD hi, zg hi, zd, zH (by omega), Uy]
  rfl
 ·show wA _ ((ZH l).length : Nat) (ZH l) = _
  unfold wA
  rw [zS, cond_false]; rfl
theorem zMz {l : List Job} (hj : yh l) (hn : l.length ≤ 12) : zhH l = some (zvD l) := by
 unfold zhH
 rw [zGT hj hn]
 simp only [Option.bind]
 have hl := zgC (l := l)
 unfold zcP
 refine zfq (step := fun x => X5 x.1 x.2.1 x.2.2.1 x.2.2.2) (0 : Int) (ZH l) (fun i (m : Int) => (m, (((ZH l).length : Nat) : Int), (i : Int), ZH l)) (fun m x => max m x) _ 0 (by omega) ?_ ?_
 ·intro i m hi _
  show X5 m ((ZH l).length : Nat) i (ZH l) = _
  unfold X5
  rw [zD hi, zg hi, zd, zH (by omega)]
  rfl
 ·show X5 _ ((ZH l).length : Nat) ((ZH l).length : Nat) (ZH l) = _
  unfold X5
  rw [zS, cond_false]; rfl
noncomputable def zTe (l : List Job) : Int := l.foldl (fun (m : Int) x => wrap .i64 (m + wrap .i64 x.1)) 0
noncomputable def ZO (l : List Job) (h : Int) : Int := max (zvD l) (wrap .i64 (Int.tdiv (wrap .i64 ((wrap .i64 (zTe l + h)) - 1)) h))
theorem zJU {l : List Job} {h : Int} (hj : yh l) (hn : l.length ≤ 12) (hv : (ZE l l.length 0 []).2 = true) (hh : h ≠ 0) : zfr l h = some (ZO l h) := by
 unfold zfr zd4
 refine zfq (step := fun x => wV x.1 x.2.1 x.2.2.1 x.2.2.2) ((0, 0) : Job) l (fun i (m : Int) => (h, m, (i : Int), l)) (fun m x => wrap .i64 (m + wrap .i64 x.1)) _ 0 (by omega) ?_ ?_
 ·intro i m hi _
  show wV h m i l = _
  unfold wV
  rw [zD hi, zg hi, zd, zH (by omega)]
  rfl
 ·show wV h (zTe l) (l.length : Nat) l = _
  unfold wV
  rw [zS, cond_false, zOy hj hn hv, decide_eq_false hh]
  simp only [Option.bind, cond_false, Uy]
  rfl
theorem zKN {l : List Job} {h : Int} (hj : yh l) (hn : l.length ≤ 12) (hh : h ≠ 0) : zlz l h = some (ZO l h) := by
 unfold zlz zdy
 refine zfq (step := fun x => wx x.1 x.2.1 x.2.2.1 x.2.2.2.1 x.2.2.2.2) ((0, 0) : Job) l (fun i (m : Int) => (h, m, ((l.length : Nat) : Int), (i : Int), l)) (fun m x => wrap .i64 (m + wrap .i64 x.1)) _ 0 (by omega) ?_ ?_
 ·intro i m hi _
  show wx h m (l.length : Nat) i l = _
  unfold wx
  rw [zD hi, zg hi, zd, zH (by omega)]
  rfl
 ·show wx h (zTe l) (l.length : Nat) (l.length : Nat) l = _
  unfold wx
  rw [zS, cond_false, zMz hj hn, decide_eq_false hh]
  rfl
theorem ztH : ∀ (xs : List Int) (m : Int), m ≤ xs.foldl (fun (m : Int) x => max m x) m ∧ (∀ x ∈ xs, x ≤ xs.foldl (fun (m : Int) x => max m x) m) ∧ (xs.foldl (fun (m : Int) x => max m x) m = m ∨ xs.foldl (fun (m : Int) x => max m x) m ∈ xs)
 | [], m => ⟨by simp, by simp, .inl rfl⟩
 | x :: xs, m => by
  obtain ⟨h1, h2, h3⟩ := ztH xs (max m x)
  rw [List.foldl_cons]
  refine ⟨by omega, fun y hy => ?_, ?_⟩
  ·rcases List.mem_cons.1 hy with rfl | hy
   ·omega
   ·exact h2 y hy
  ·rcases h3 with h3 | h3
   ·by_cases h : m < x
    ·right
     have : max m x = x := by omega
     rw [h3, this]; simp
    ·left
     rw [h3]; omega
   ·right; exact List.mem_cons_of_mem _ h3
end Go.RR
namespace Go.RR
open Go
open Go.IntKind (wrap)
theorem zS7 {α : Type} {l : List α} {i : Nat} (d : α) (h : i < l.length) : l.getD i d = l[i] := by
 rw [List.getD_eq_getElem?_getD, List.getElem?_eq_getElem h]; rfl
noncomputable def yZ (l : List Job) (p : List zX) (i : Nat) : Int := (List.range' 0 l.length).foldl (fun (m : Int) k => cond (ya l i k) (max m (yN l p k)) m) 0
noncomputable def atB (fr : List Int) (rd : Int) (n : Nat) : Nat := (List.range' 1 n).foldl (fun at_ h => cond (decide (max (fr.getD h 0) rd < max (fr.getD at_ 0) rd)) h at_) 0
noncomputable def zh (l : List Job) (p : List zX) (fr : List Int) (i : Nat) : zX :=
 (wrap .i8 ((atB fr (yZ l p i) (fr.length - 1) : Nat) : Int), wrap .i16 (max (fr.getD (atB fr (yZ l p i) (fr.length - 1)) 0) (yZ l p i)))
theorem zlH (f : Nat → Nat → Bool) : ∀ (k i a : Nat), a < i → (List.range' i k).foldl (fun at_ h => cond (f at_ h) h at_) a < i + k
 | 0, i, a, h => h
 | k + 1, i, a, h => by
  rw [List.range'_succ, List.foldl_cons]
  have := zlH f k (i + 1) (cond (f a i) i a) (by cases f a i <;> simp <;> omega)
  omega
theorem zOi (fr : List Int) (rd : Int) (n : Nat) : atB fr rd n < 1 + n := zlH _ n 1 0 (by omega)
theorem zqQ {l : List Job} {p : List zX} {fr : List Int} {i : Nat} (hj : yh l) (hn : l.length ≤ 12) (hp : p.length = l.length) (hi : i < l.length) (hf : 1 ≤ fr.length ∧ fr.length ≤ 4) : WG l p fr i = some (zh l p fr i) := by
 unfold WG zdt
 refine yp (step := fun x => wj x.1 x.2.1 x.2.2.1 x.2.2.2.1 x.2.2.2.2.1 x.2.2.2.2.2.1 x.2.2.2.2.2.2.1 x.2.2.2.2.2.2.2) l.length (fun k (m : Int) => ((i : Int), m, (k : Int), l, p, fr, 0, 0)) (fun m k => cond (ya l i k) (max m (yN l p k)) m) _ 0 (by omega) ?_ ?_
 ·intro k m hk
  show wj i m k l p fr 0 0 = _
  unfold wj
  rw [zD hk, zpu hj hi (by omega), zms hk (by omega), zH (by omega)]
  simp only [cond_true, Option.bind, Uy]
  cases ya l i k <;> rfl
 ·show wj i (yZ l p i) (l.length : Nat) l p fr 0 0 = _
  unfold wj
  rw [zS, cond_false]
  have key : uF (yZ l p i, 0, 1, fr, 0, 0) = some (zh l p fr i) := by
   unfold uF
   have e := yK (step := fun x => wJ x.1 x.2.1 x.2.2.1 x.2.2.2.1 x.2.2.2.2.1 x.2.2.2.2.2) (fr.length - 1) (fun k (a : Nat) => (yZ l p i, (a : Int), ((1 + k : Nat) : Int), fr, 0, 0)) (fun a k => cond (decide (max (fr.getD (1 + k) 0) (yZ l p i) < max (fr.getD a 0) (yZ l p i))) (1 + k) a) (fun k a => a < 1 + k) (zh l p fr i) 0 (by omega) (by omega) ?_ ?_
   ·exact e
   ·intro k a hk ha
    refine ⟨?_, by cases decide (max (fr.getD (1 + k) 0) (yZ l p i) < max (fr.getD a 0) (yZ l p i)) <;> simp <;> omega⟩
    show wJ (yZ l p i) a ((1 + k : Nat) : Int) fr 0 0 = _
    unfold wJ
    rw [zD (show 1 + k < fr.length by omega), zg (show 1 + k < fr.length by omega), zg (show a < fr.length by omega), zd, zd, Uy, Uy, zH (by omega)]
    simp only [cond_true]
    have e1 : 1 + k + 1 = 1 + (k + 1) := by omega
    rw [e1]
    cases decide (max (fr.getD (1 + k) 0) (yZ l p i) < max (fr.getD a 0) (yZ l p i)) <;> rfl
   ·intro ha
    have e2 : (List.range' 0 (fr.length - 1)).foldl (fun a k => cond (decide (max (fr.getD (1 + k) 0) (yZ l p i) < max (fr.getD a 0) (yZ l p i))) (1 + k) a) 0 = atB fr (yZ l p i) (fr.length - 1) := by
     have h1 : List.range' 1 (fr.length - 1) = (List.range' 0 (fr.length - 1)).map (1 + ·) := by rw [List.map_add_range']
     unfold atB
     rw [h1, List.foldl_map]
    rw [e2] at ha ⊢
    show wJ (yZ l p i) (atB fr (yZ l p i) (fr.length - 1) : Nat) ((1 + (fr.length - 1) : Nat) : Int) fr 0 0 = _
    unfold wJ
    rw [show 1 + (fr.length - 1) = fr.length by omega, zS, cond_false, zg (by omega), zd, Uy]
    rfl
  rw [key]
  rfl
theorem zu7 {l : List Job} {p : List zX} {fr : List Int} {i : Nat} (hj : yh l) (hn : l.length ≤ 12) (hp : p.length = l.length) (hi : i < l.length) (hf : 1 ≤ fr.length ∧ fr.length ≤ 4) : zb8 l p fr i = some (zh l p fr i) := by
 unfold zb8 zds
 refine yK (step := fun x => wH x.1 x.2.1 x.2.2.1 x.2.2.2.1 x.2.2.2.2.1 x.2.2.2.2.2.1 x.2.2.2.2.2.2.1 x.2.2.2.2.2.2.2.1 x.2.2.2.2.2.2.2.2) l.length (fun k (m : Int) => ((i : Int), m, ((l.length : Nat) : Int), (k : Int), l, p, fr, 0, 0)) (fun m k => cond (ya l i k) (max m (yN l p k)) m) (fun _ m => 0 ≤ m) _ 0 (by omega) (by omega) ?_ ?_
 ·intro k m hk hm
  refine ⟨?_, by cases ya l i k <;> simp <;> omega⟩
  show wH i m (l.length : Nat) k l p fr 0 0 = _
  unfold wH
  rw [zD hk, zg hk, zg hi, zd, zd, zgx hj hi, zg (show k < p.length by omega), zH (by omega)]
  simp only [cond_true, Option.bind]
  cases ya l i k <;> rfl
 ·intro hm
  have hm : 0 ≤ yZ l p i := hm
  show wH i (yZ l p i) (l.length : Nat) (l.length : Nat) l p fr 0 0 = _
  unfold wH
  rw [zS, cond_false]
  have key : vv (yZ l p i, 0, -1, ((fr.length : Nat) : Int), 0, 0, 0, fr) = some (zh l p fr i) := by
   unfold vv
   have e := yK (step := fun x => YR x.1 x.2.1 x.2.2.1 x.2.2.2.1 x.2.2.2.2.1 x.2.2.2.2.2.1 x.2.2.2.2.2.2.1 x.2.2.2.2.2.2.2) fr.length (fun k (a : Nat) => (yZ l p i, (a : Int), (if k = 0 then -1 else max (fr.getD a 0) (yZ l p i)), ((fr.length : Nat) : Int), (k : Int), 0, 0, fr)) (fun a k => if k = 0 then 0 else cond (decide (max (fr.getD k 0) (yZ l p i) < max (fr.getD a 0) (yZ l p i))) k a) (fun k a => a = 0 ∨ a < k) (zh l p fr i) 0 (by omega) (.inl rfl) ?_ ?_
   ·exact e
   ·intro k a hk ha
    refine ⟨?_, ?_⟩
    ·show YR (yZ l p i) a (if k = 0 then -1 else max (fr.getD a 0) (yZ l p i)) (fr.length : Nat) k 0 0 fr = _
     unfold YR
     rw [zD hk, zg hk, zd, zH (by omega), if_neg (show ¬ k + 1 = 0 by omega)]
     by_cases h0 : k = 0
     ·subst h0
      simp
     ·rw [if_neg h0, if_neg h0, decide_eq_false (show ¬ max (fr.getD a 0) (yZ l p i) < 0 by omega)]
      simp only [cond_true, cond_false]
      cases decide (max (fr.getD k 0) (yZ l p i) < max (fr.getD a 0) (yZ l p i)) <;> rfl
    ·by_cases h0 : k = 0
     ·rw [if_pos h0]; exact .inl rfl
     ·rw [if_neg h0]
      cases decide (max (fr.getD k 0) (yZ l p i) < max (fr.getD a 0) (yZ l p i))
      ·simp only [cond_false]; omega
      ·simp only [cond_true]; omega
   ·intro ha
    have e2 : (List.range' 0 fr.length).foldl (fun a k => if k = 0 then 0 else cond (decide (max (fr.getD k 0) (yZ l p i) < max (fr.getD a 0) (yZ l p i))) k a) 0 = atB fr (yZ l p i) (fr.length - 1) := by
     obtain ⟨m, hm⟩ : ∃ m, fr.length = m + 1 := ⟨fr.length - 1, by omega⟩
     rw [hm, List.range'_succ, List.foldl_cons]
     unfold atB
     simp only [if_true, Nat.add_sub_cancel, Nat.zero_add]
     refine zke _ _ fun k hk a => ?_
     have := (List.mem_range'_1.1 hk).1
     rw [if_neg (by omega)]
    rw [e2]
    show YR (yZ l p i) (atB fr (yZ l p i) (fr.length - 1) : Nat) (if fr.length = 0 then -1 else _) (fr.length : Nat) (fr.length : Nat) 0 0 fr = _
    unfold YR
    rw [zS, cond_false, if_neg (by omega)]
    rfl
  rw [key]
  rfl
theorem Vd {l : List Job} {p : List zX} {fr : List Int} {i : Nat} (hf : 1 ≤ fr.length ∧ fr.length ≤ 4) : ∃ h : Nat, h < fr.length ∧ (zh l p fr i).1 = (h : Int) := by
 have := zOi fr (yZ l p i) (fr.length - 1)
 refine ⟨atB fr (yZ l p i) (fr.length - 1), by omega, ?_⟩
 unfold zh
 exact IntWalk.i8_in _ (by omega)
theorem ze8 {h : Int} (hh : xS h = true) : ∃ n : Nat, h = (n : Int) ∧ 1 ≤ n ∧ n ≤ 4 := by
 unfold xS zK at hh
 by_cases h1 : h ≥ 1
 ·rw [decide_eq_true h1, cond_true] at hh
  have := of_decide_eq_true hh
  exact ⟨h.toNat, by omega, by omega, by omega⟩
 ·rw [decide_eq_false h1, cond_false] at hh; cases hh
theorem zAP {n : Nat} (h : n ≤ 4) : (decide (0 ≤ ((n : Nat) : Int)) && decide (((n : Nat) : Int) = ((n : Nat) : Int)) && zW ((Int.toNat ((n : Nat) : Int)) * 8)) = true := zom n 8 (by omega)
end Go.RR
namespace Go.RR
open Go
open Go.IntKind (wrap)
abbrev tb (tk : Int) (i : Nat) : Bool := tk.toNat.testBit i
structure zbZ (n : Nat) (tk : Int) : Prop where
 rng : 0 ≤ tk ∧ tk ≤ 65535
 lt : tk.toNat < 2 ^ n
theorem zpB {a b : Int} (ha : 0 ≤ a ∧ a ≤ 65535) (hb : 0 ≤ b ∧ b ≤ 65535) : (0 ≤ zO .u16 a b ∧ zO .u16 a b ≤ 65535) ∧ ∀ k, (zO .u16 a b).toNat.testBit k = (a.toNat.testBit k && !b.toNat.testBit k) := by
 have hl : (BitVec.ofInt 16 a &&& ~~~BitVec.ofInt 16 b).toNat < 65536 := (BitVec.ofInt 16 a &&& ~~~BitVec.ofInt 16 b).isLt
 have e : zO .u16 a b = ((BitVec.ofInt 16 a &&& ~~~BitVec.ofInt 16 b).toNat : Int) := by
  unfold zO
  exact IntWalk.u16_in _ (by show (0 : Int) ≤ ((BitVec.ofInt 16 a &&& ~~~BitVec.ofInt 16 b).toNat : Int) ∧ ((BitVec.ofInt 16 a &&& ~~~BitVec.ofInt 16 b).toNat : Int) ≤ 65535; omega)
 rw [e]
 refine ⟨by omega, fun k => ?_⟩
 have ga : ∀ x : Int, 0 ≤ x ∧ x ≤ 65535 → (BitVec.ofInt 16 x).getLsbD k = x.toNat.testBit k := by
  intro x hx
  show (BitVec.ofInt 16 x).toNat.testBit k = _
  rw [BitVec.toNat_ofInt]
  have : (x % ((2 ^ 16 : Nat) : Int)).toNat = x.toNat := by
   have : ((2 ^ 16 : Nat) : Int) = 65536 := rfl
   rw [this]; omega
  rw [this]
 show (BitVec.ofInt 16 a &&& ~~~BitVec.ofInt 16 b).toNat.testBit k = _
 have h1 : (BitVec.ofInt 16 a &&& ~~~BitVec.ofInt 16 b).getLsbD k = ((BitVec.ofInt 16 a).getLsbD k && (decide (k < 16) && !(BitVec.ofInt 16 b).getLsbD k)) := by
  rw [BitVec.getLsbD_and, BitVec.getLsbD_not]
 have h2 : (BitVec.ofInt 16 a &&& ~~~BitVec.ofInt 16 b).toNat.testBit k = (BitVec.ofInt 16 a &&& ~~~BitVec.ofInt 16 b).getLsbD k := rfl
 rw [h2, h1, ga a ha, ga b hb]
 by_cases hk : k < 16
 ·rw [decide_eq_true hk, Bool.true_and]
 ·have hlt : a.toNat < 2 ^ k := Nat.lt_of_lt_of_le (show a.toNat < 2 ^ 16 by show a.toNat < 65536; omega) (Nat.pow_le_pow_right (by decide) (by omega))
  rw [Nat.testBit_lt_two_pow hlt]; rfl
theorem zju {a b : Int} (ha : 0 ≤ a) (hb : 0 ≤ b) (h : ∀ k, a.toNat.testBit k = b.toNat.testBit k) : a = b := by
 have : a.toNat = b.toNat := Nat.eq_of_testBit_eq h
 omega
noncomputable def tkI (tk : Int) (i : Nat) : Int := bOr .u16 tk (yl .u16 1 (i : Int))
theorem zqS {i : Nat} (hi : i < 12) : (0 ≤ yl .u16 1 (i : Int) ∧ yl .u16 1 (i : Int) ≤ 65535) ∧ ∀ k, (yl .u16 1 (i : Int)).toNat.testBit k = decide (i = k) := by
 obtain ⟨h1, h2, h3⟩ := zT4 hi
 rw [h1]
 exact ⟨by omega, fun k => by rw [zd, Nat.testBit_two_pow]⟩
theorem xC {n : Nat} {tk : Int} (h : zbZ n tk) {i : Nat} (hi : i < n) (hn : n ≤ 12) : zbZ n (tkI tk i) ∧ ∀ k, tb (tkI tk i) k = (tb tk k || decide (i = k)) := by
 obtain ⟨r1, r2⟩ := zqS (show i < 12 by omega)
 obtain ⟨o1, o2, o3⟩ := zBA h.rng r1
 unfold tkI
 refine ⟨⟨⟨o2, o3⟩, ?_⟩, fun k => ?_⟩
 ·rw [o1]
  refine Nat.or_lt_two_pow h.lt ?_
  rw [(zT4 (show i < 12 by omega)).1, zd]
  exact Nat.pow_lt_pow_right (by decide) hi
 ·show (bOr .u16 tk (yl .u16 1 (i : Int))).toNat.testBit k = _
  rw [o1, Nat.testBit_or, r2]
theorem vi {n : Nat} {tk : Int} (h : zbZ n tk) {i : Nat} (hi : i < n) (hn : n ≤ 12) (hb : tb tk i = false) : zO .u16 (tkI tk i) (yl .u16 1 (i : Int)) = tk := by
 obtain ⟨r1, r2⟩ := zqS (show i < 12 by omega)
 obtain ⟨t1, t2⟩ := xC h hi hn
 obtain ⟨a1, a2⟩ := zpB t1.rng r1
 refine zju a1.1 h.rng.1 fun k => ?_
 rw [a2, r2]
 have : (tkI tk i).toNat.testBit k = (tb tk k || decide (i = k)) := t2 k
 rw [this]
 by_cases hk : i = k
 ·subst hk
  rw [decide_eq_true rfl, hb, show tk.toNat.testBit i = false from hb]; rfl
 ·rw [decide_eq_false hk]; simp
theorem xE {l : List Job} {tk : Int} (h0 : 0 ≤ tk) {i : Nat} (hi : i < 16) (hr : ready l tk i = true) : tb tk i = false := by
 unfold ready at hr
 rw [zit h0 hi] at hr
 cases hb : tk.toNat.testBit i
 ·exact hb
 ·rw [hb] at hr; cases hr
def xp (tk : Int) : Nat → Nat → Nat
 | _, 0 => 0
 | a, n + 1 => (cond (tb tk a) 0 1) + xp tk (a + 1) n
theorem zxi {tk tk' : Int} : ∀ (n a : Nat), (∀ k, a ≤ k → k < a + n → tb tk' k = tb tk k) → xp tk' a n = xp tk a n
 | 0, _, _ => rfl
 | n + 1, a, h => by
  simp only [xp]
  rw [h a (Nat.le_refl _) (by omega), zxi n (a + 1) fun k h1 h2 => h k (by omega) (by omega)]
theorem xG {tk tk' : Int} {i : Nat} (hb : ∀ k, tb tk' k = (tb tk k || decide (i = k))) (h0 : tb tk i = false) : ∀ (n a : Nat), a ≤ i → i < a + n → xp tk' a n + 1 = xp tk a n
 | 0, a, h1, h2 => by omega
 | n + 1, a, h1, h2 => by
  simp only [xp]
  by_cases ha : i = a
  ·subst ha
   have hs := zxi (tk := tk) (tk' := tk') n (i + 1) fun k h3 h4 => by rw [hb, decide_eq_false (show ¬ i = k by omega), Bool.or_false]
   rw [hb, h0, decide_eq_true rfl, hs]
   simp only [Bool.false_or, cond_true, cond_false]
   omega
  ·have := xG hb h0 n (a + 1) (by omega) (by omega)
   rw [hb a, decide_eq_false ha, Bool.or_false]
   omega
theorem ZY {tk : Int} : ∀ (n a : Nat), xp tk a n = 0 ↔ ∀ k, a ≤ k → k < a + n → tb tk k = true
 | 0, a => ⟨fun _ k h1 h2 => by omega, fun _ => rfl⟩
 | n + 1, a => by
  simp only [xp]
  constructor
  ·intro h k h1 h2
   cases hb : tb tk a
   ·rw [hb] at h; simp only [cond_false] at h; omega
   ·rw [hb] at h
    simp only [cond_true] at h
    by_cases hk : k = a
    ·subst hk; exact hb
    ·exact (ZY n (a + 1)).1 (by omega) k (by omega) (by omega)
  ·intro h
   rw [h a (Nat.le_refl _) (by omega), (ZY n (a + 1)).2 fun k h1 h2 => h k (by omega) (by omega)]
   rfl
theorem zrN (tk : Int) : ∀ (n a : Nat), xp tk a n ≤ n
 | 0, _ => Nat.le_refl _
 | n + 1, a => by
  simp only [xp]
  have := zrN tk n (a + 1)
  cases tb tk a
  ·simp only [cond_false]; omega
  ·simp only [cond_true]; omega
noncomputable def vZ (n : Nat) : Int := wrap .u16 (yl .u16 1 (n : Int) - 1)
theorem zSS {n : Nat} (hn : n ≤ 12) : vZ n = ((2 ^ n - 1 : Nat) : Int) := by
 have h1 : 2 ^ n ≤ 2 ^ 12 := Nat.pow_le_pow_right (by decide) hn
 have h2 : 0 < 2 ^ n := Nat.pow_pos (by decide)
 have h1 : 2 ^ n ≤ 4096 := h1
 have e : yl .u16 1 (n : Int) = ((2 ^ n : Nat) : Int) := by
  unfold yl
  have hm : min (Int.toNat (n : Int)) IntKind.u16.bits = n := by
   rw [zd]
   exact Nat.min_eq_left (by show n ≤ 16; omega)
  rw [hm, Int.one_mul, show ((2 : Int) ^ n) = ((2 ^ n : Nat) : Int) by rw [Int.natCast_pow]; rfl]
  exact IntWalk.u16_in _ (by omega)
 unfold vZ
 rw [e, IntWalk.u16_in _ (by omega)]
 omega
theorem zi8 {n : Nat} (hn : n ≤ 12) {tk : Int} (h : zbZ n tk) : (tk == vZ n) = decide (xp tk 0 n = 0) := by
 apply Bool.eq_iff_iff.2
 rw [beq_iff_eq, decide_eq_true_eq, zSS hn]
 constructor
 ·intro e
  rw [ZY]
  intro k _ hk
  show tk.toNat.testBit k = true
  rw [e, zd, Nat.testBit_two_pow_sub_one, decide_eq_true (show k < n by omega)]
 ·intro e
  rw [ZY] at e
  refine zju h.rng.1 (by omega) fun k => ?_
  rw [zd, Nat.testBit_two_pow_sub_one]
  by_cases hk : k < n
  ·rw [decide_eq_true hk]; exact e k (Nat.zero_le _) (by omega)
  ·rw [decide_eq_false hk]
   exact Nat.testBit_lt_two_pow (Nat.lt_of_lt_of_le h.lt (Nat.pow_le_pow_right (by decide) (by omega)))
def Yu (p : Nat → Bool) (f : Nat → Int) (ks : List Nat) (m : Int) : Int := ks.foldl (fun (m : Int) k => cond (p k) (max m (f k)) m) m
theorem znt (p : Nat → Bool) (f : Nat → Int) (e : Int) : ∀ (ks : List Nat) (m : Int), Yu p f ks (max m e) = max (Yu p f ks m) e
 | [], m => rfl
 | k :: ks, m => by
  show Yu p f ks (cond (p k) (max (max m e) (f k)) (max m e)) = max (Yu p f ks (cond (p k) (max m (f k)) m)) e
  cases p k
  ·exact znt p f e ks m
  ·rw [cond_true, cond_true, show max (max m e) (f k) = max (max m (f k)) e by omega]
   exact znt p f e ks (max m (f k))
theorem zru (p : Nat → Bool) (f : Nat → Int) : ∀ (ks : List Nat) (m : Int), m ≤ Yu p f ks m ∧ ∀ k ∈ ks, p k = true → f k ≤ Yu p f ks m
 | [], m => ⟨Int.le_refl _, fun k hk => nomatch hk⟩
 | k :: ks, m => by
  show m ≤ Yu p f ks (cond (p k) (max m (f k)) m) ∧ ∀ k' ∈ k :: ks, p k' = true → f k' ≤ Yu p f ks (cond (p k) (max m (f k)) m)
  obtain ⟨h1, h2⟩ := zru p f ks (cond (p k) (max m (f k)) m)
  have h3 : m ≤ cond (p k) (max m (f k)) m := by
   cases p k
   ·exact Int.le_refl _
   ·rw [cond_true]; omega
  refine ⟨Int.le_trans h3 h1, fun k' hk' hp => ?_⟩
  rcases List.mem_cons.1 hk' with rfl | hk'
  ·rw [hp, cond_true] at h1 ⊢; omega
  ·exact h2 k' hk' hp
theorem zL1 {p p' : Nat → Bool} {f f' : Nat → Int} {i : Nat} (hp : ∀ k, p' k = (p k || decide (i = k))) (h0 : p i = false) (hf : ∀ k, k ≠ i → f' k = f k) {ks : List Nat} (hi : i ∈ ks) (m : Int) : Yu p' f' ks m = max (Yu p f ks m) (f' i) := by
 have key : ∀ (ks : List Nat) (m : Int), max (Yu p' f' ks m) (f' i) = max (Yu p f ks m) (f' i) := by
  intro ks
  induction ks with
  | nil => intro m; rfl
  | cons k ks ih =>
   intro m
   show max (Yu p' f' ks (cond (p' k) (max m (f' k)) m)) (f' i) = max (Yu p f ks (cond (p k) (max m (f k)) m)) (f' i)
   by_cases hk : i = k
   ·subst hk
    rw [hp, h0, decide_eq_true rfl]
    simp only [Bool.false_or, cond_true, cond_false]
    rw [znt, show max (max (Yu p' f' ks m) (f' i)) (f' i) = max (Yu p' f' ks m) (f' i) by omega]
    exact ih m
   ·rw [hp, decide_eq_false hk, Bool.or_false, hf k (fun e => hk e.symm)]
    exact ih _
 have h1 := (zru p' f' ks m).2 i hi (by rw [hp, decide_eq_true rfl, Bool.or_true])
 rw [← key ks m]
 omega
theorem zbp {p : Nat → Bool} {f : Nat → Int} : ∀ (ks : List Nat) (m : Int), (∀ k ∈ ks, p k = true) → Yu p f ks m = ks.foldl (fun (m : Int) k => max m (f k)) m
 | [], m, _ => rfl
 | k :: ks, m, h => by
  show Yu p f ks (cond (p k) (max m (f k)) m) = ks.foldl _ (max m (f k))
  rw [h k (by simp), cond_true]
  exact zbp ks _ fun k' hk' => h k' (by simp [hk'])
end Go.RR
namespace Go.RR
open Go
open Go.IntKind (wrap)
def sm (f : Nat → Int) : Nat → Int
 | 0 => 0
 | n + 1 => sm f n + f n
theorem VU {f g : Nat → Int} : ∀ n, (∀ i, i < n → f i = g i) → sm f n = sm g n
 | 0, _ => rfl
 | n + 1, h => by
  show sm f n + f n = sm g n + g n
  rw [VU n fun i hi => h i (by omega), h n (by omega)]
theorem zyo {f g : Nat → Int} : ∀ n, (∀ i, i < n → f i ≤ g i) → sm f n ≤ sm g n
 | 0, _ => Int.le_refl _
 | n + 1, h => by
  have := zyo n fun i hi => h i (by omega)
  have := h n (by omega)
  show sm f n + f n ≤ sm g n + g n
  omega
theorem zQy (f g : Nat → Int) : ∀ n, sm (fun i => f i + g i) n = sm f n + sm g n
 | 0 => rfl
 | n + 1 => by
  show sm (fun i => f i + g i) n + (f n + g n) = sm f n + f n + (sm g n + g n)
  rw [zQy f g n]; omega
theorem zbN : ∀ n, sm (fun _ => 0) n = 0
 | 0 => rfl
 | n + 1 => by
  show sm (fun _ => 0) n + 0 = 0
  rw [zbN n]; rfl
theorem zjQ (c : Int) : ∀ n : Nat, sm (fun _ => c) n = (n : Int) * c
 | 0 => by simp [sm]
 | n + 1 => by
  show sm (fun _ => c) n + c = ((n + 1 : Nat) : Int) * c
  rw [zjQ c n, show ((n + 1 : Nat) : Int) = (n : Int) + 1 by omega, Int.add_mul, Int.one_mul]
theorem zDY (f : Nat → Nat → Int) (m : Nat) : ∀ n, sm (fun i => sm (fun k => f i k) m) n = sm (fun k => sm (fun i => f i k) n) m
 | 0 => (zbN m).symm
 | n + 1 => by
  show sm (fun i => sm (fun k => f i k) m) n + sm (fun k => f n k) m = sm (fun k => sm (fun i => f i k) n + f n k) m
  rw [zDY f m n, zQy]
theorem zrn {f g : Nat → Int} {j : Nat} (h : ∀ i, i ≠ j → g i = f i) : ∀ n, j < n → sm g n = sm f n + (g j - f j)
 | 0, hj => by omega
 | n + 1, hj => by
  show sm g n + g n = sm f n + f n + (g j - f j)
  by_cases hn : j = n
  ·subst hn
   rw [VU j fun i hi => h i (by omega)]; omega
  ·rw [zrn h n (by omega), h n (fun e => hn e.symm)]; omega
theorem zUF (c : Int) {j n : Nat} (hj : j < n) : sm (fun i => cond (j == i) c 0) n = c := by
 have := zrn (f := fun _ => 0) (g := fun i => cond (j == i) c 0) (j := j) (fun i hi => by
  show cond (j == i) c 0 = 0
  rw [show (j == i) = false from by simpa using fun e => hi e.symm]; rfl) n hj
 rw [this, zbN]
 simp
abbrev dn (l : List Job) (i : Nat) : Int := (l.getD i (0, 0)).1
abbrev stt (p : List zX) (i : Nat) : Int := (p.getD i (0, 0)).2
abbrev hnd (p : List zX) (i : Nat) : Int := (p.getD i (0, 0)).1
abbrev en (l : List Job) (p : List zX) (i : Nat) : Int := stt p i + dn l i
structure VJ (l : List Job) : Prop where
 ok : yh l
 len : l.length ≤ 12
 days : ∀ i, i < l.length → 1 ≤ dn l i ∧ dn l i ≤ 30
 wait : ∀ i k, i < l.length → k < 16 → ya l i k = true → k < l.length
noncomputable def zgy (l : List Job) (tk : Int) : Int := sm (fun i => cond (tb tk i) (dn l i) 0) l.length
noncomputable def zja (l : List Job) (tk : Int) (p : List zX) (h : Nat) : Int := sm (fun i => cond (tb tk i && (hnd p i == (h : Int))) (dn l i) 0) l.length
theorem ve {l : List Job} (hv : VJ l) (tk : Int) : 0 ≤ zgy l tk ∧ zgy l tk ≤ 360 := by
 have h1 := zyo (f := fun i => cond (tb tk i) (dn l i) 0) (g := fun _ => 30) l.length fun i hi => by
  have := hv.days i hi
  show cond (tb tk i) (dn l i) 0 ≤ 30
  cases tb tk i
  ·simp
  ·simp only [cond_true]; omega
 have h2 := zyo (f := fun _ => 0) (g := fun i => cond (tb tk i) (dn l i) 0) l.length fun i hi => by
  have := hv.days i hi
  show 0 ≤ cond (tb tk i) (dn l i) 0
  cases tb tk i
  ·simp
  ·simp only [cond_true]; omega
 rw [zjQ] at h1
 rw [zbN] at h2
 have h3 := hv.len
 refine ⟨h2, Int.le_trans h1 ?_⟩
 omega
structure zb3 (l : List Job) (H : Nat) (tk : Int) (p : List zX) (fr : List Int) : Prop where
 tok : zbZ l.length tk
 plen : p.length = l.length
 flen : fr.length = H
 hand : ∀ i, i < l.length → tb tk i = true → ∃ h : Nat, hnd p i = (h : Int) ∧ h < H
 pos : ∀ i, i < l.length → tb tk i = true → 0 ≤ stt p i ∧ en l p i ≤ zgy l tk
 wait : ∀ i k, i < l.length → tb tk i = true → k < l.length → ya l i k = true → tb tk k = true ∧ en l p k ≤ stt p i
 top : ∀ i, i < l.length → tb tk i = true → en l p i ≤ fr.getD (hnd p i).toNat 0
 apart : ∀ i k, i < l.length → k < l.length → tb tk i = true → tb tk k = true → i ≠ k → hnd p i = hnd p k → en l p i ≤ stt p k ∨ en l p k ≤ stt p i
 load : ∀ h, h < H → zja l tk p h ≤ fr.getD h 0
 made : ∀ h, h < H → fr.getD h 0 = 0 ∨ ∃ i, i < l.length ∧ tb tk i = true ∧ fr.getD h 0 = en l p i
theorem zbq {l : List Job} (hv : VJ l) {p : List zX} {i : Nat} (hi : i < l.length) (h : 0 ≤ stt p i ∧ stt p i ≤ 1000) : yN l p i = en l p i := by
 have := hv.days i hi
 unfold yN
 rw [IntWalk.i64_in (p.getD i (0, 0)).2 (by show -9223372036854775808 ≤ stt p i ∧ stt p i ≤ 9223372036854775807; omega), IntWalk.i64_in (l.getD i (0, 0)).1 (by show -9223372036854775808 ≤ dn l i ∧ dn l i ≤ 9223372036854775807; omega), IntWalk.i64_in _ (by show -9223372036854775808 ≤ stt p i + dn l i ∧ stt p i + dn l i ≤ 9223372036854775807; omega)]
theorem zb3.fr_le {l : List Job} {H : Nat} {tk : Int} {p : List zX} {fr : List Int} (h : zb3 l H tk p fr) (hv : VJ l) {x : Nat} (hx : x < H) : 0 ≤ fr.getD x 0 ∧ fr.getD x 0 ≤ zgy l tk := by
 have hs := ve hv tk
 rcases h.made x hx with e | ⟨i, hi, hb, e⟩
 ·rw [e]; omega
 ·have := h.pos i hi hb
  have := hv.days i hi
  rw [e]; show 0 ≤ stt p i + dn l i ∧ _; omega
theorem zb3.st_le {l : List Job} {H : Nat} {tk : Int} {p : List zX} {fr : List Int} (h : zb3 l H tk p fr) (hv : VJ l) {i : Nat} (hi : i < l.length) (hb : tb tk i = true) : 0 ≤ stt p i ∧ stt p i ≤ 1000 := by
 have hs := ve hv tk
 have := h.pos i hi hb
 have h3 : en l p i = stt p i + dn l i := rfl
 have := hv.days i hi
 omega
theorem zuP {l : List Job} {H : Nat} {tk : Int} {p : List zX} {fr : List Int} (h : zb3 l H tk p fr) (hv : VJ l) {i : Nat} (hi : i < l.length) (hw : ∀ k, k < l.length → ya l i k = true → tb tk k = true) :
  (∀ k, k < l.length → ya l i k = true → en l p k ≤ yZ l p i) ∧ 0 ≤ yZ l p i ∧ yZ l p i ≤ zgy l tk := by
 have hs := ve hv tk
 have key : ∀ (ks : List Nat) (m : Int), (∀ k ∈ ks, k < l.length) → 0 ≤ m → m ≤ zgy l tk →
   m ≤ Yu (ya l i) (yN l p) ks m ∧ Yu (ya l i) (yN l p) ks m ≤ zgy l tk ∧ ∀ k ∈ ks, ya l i k = true → en l p k ≤ Yu (ya l i) (yN l p) ks m := by
  intro ks
  induction ks with
  | nil => intro m _ h0 h1; exact ⟨Int.le_refl _, h1, fun k hk => nomatch hk⟩
  | cons k ks ih =>
   intro m hm h0 h1
   show m ≤ Yu (ya l i) (yN l p) ks (cond (ya l i k) (max m (yN l p k)) m) ∧ Yu (ya l i) (yN l p) ks (cond (ya l i k) (max m (yN l p k)) m) ≤ _ ∧ ∀ k' ∈ k :: ks, ya l i k' = true → en l p k' ≤ Yu (ya l i) (yN l p) ks (cond (ya l i k) (max m (yN l p k)) m)
   have hk := hm k (by simp)
   cases hq : ya l i k with
   | false =>
    simp only [cond_false]
    obtain ⟨a, b, c⟩ := ih m (fun k' h' => hm k' (by simp [h'])) h0 h1
    refine ⟨a, b, fun k' h' hw' => ?_⟩
    rcases List.mem_cons.1 h' with rfl | h'
    ·rw [hq] at hw'; cases hw'
    ·exact c k' h' hw'
   | true =>
    simp only [cond_true]
    have hb := hw k hk hq
    have h2 := h.pos k hk hb
    have h3 := zbq hv hk (h.st_le hv hk hb)
    rw [h3]
    obtain ⟨a, b, c⟩ := ih (max m (en l p k)) (fun k' h' => hm k' (by simp [h'])) (by omega) (by omega)
    refine ⟨by omega, b, fun k' h' hw' => ?_⟩
    rcases List.mem_cons.1 h' with rfl | h'
    ·omega
    ·exact c k' h' hw'
 obtain ⟨a, b, c⟩ := key (List.range' 0 l.length) 0 (fun k hk => by rw [List.mem_range'_1] at hk; omega) (Int.le_refl _) hs.1
 have e : yZ l p i = Yu (ya l i) (yN l p) (List.range' 0 l.length) 0 := rfl
 rw [e]
 exact ⟨fun k hk hq => c k (by rw [List.mem_range'_1]; omega) hq, a, b⟩
theorem getD_set_ne {α : Type} {p : List α} {i k : Nat} {x d : α} (h : i ≠ k) : (p.set i x).getD k d = p.getD k d := by
 rw [List.getD_eq_getElem?_getD, List.getElem?_set_ne h, List.getD_eq_getElem?_getD]
theorem UP {α : Type} {p : List α} {i : Nat} {x d : α} (h : i < p.length) : (p.set i x).getD i d = x := by
 rw [List.getD_eq_getElem?_getD, List.getElem?_set_self h]; rfl
end Go.RR
namespace Go.RR
open Go
open Go.IntKind (wrap)
structure PS where
 tr : Int
 len : Int
 best : Option (List zX)
noncomputable def yk (l : List Job) (sl : zX) (i : Nat) : Int := wrap .i64 (wrap .i64 sl.2 + wrap .i64 (l.getD i (0, 0)).1)
section
variable (l : List Job) (Bd Bg : Int)
noncomputable def yy (rec : Int → List zX → List Int → Int → PS → PS × Nat) (tk : Int) (plan : List zX) (free : List Int) (day : Int) (st : PS) (i : Nat) : PS ⊕ (PS × Nat) :=
 cond (ready l tk i) (cond (st.best.isSome && decide (yk l (zh l plan free i) i ≥ st.len)) (.inl st)
  (cond (decide (st.tr + 1 > Bg)) (.inr (⟨st.tr + 1, st.len, st.best⟩, 2))
   (match rec (tkI tk i) (plan.set i (zh l plan free i)) (free.set (zh l plan free i).1.toNat (yk l (zh l plan free i) i)) (max day (yk l (zh l plan free i) i)) ⟨st.tr + 1, st.len, st.best⟩ with
    | (st', 0) => .inl st'
    | (st', c + 1) => .inr (st', c + 1)))) (.inl st)
noncomputable def go : Nat → Int → List zX → List Int → Int → PS → PS × Nat
 | 0, _, _, _, _, st => (st, 0)
 | k + 1, tk, plan, free, day, st => cond (tk == vZ l.length) (⟨st.tr, day, some plan⟩, cond (day == Bd) 1 0)
   (match exitL (yy l Bg (go k) tk plan free day) st (List.range' 0 l.length) with
    | .inl st' => (st', 0)
    | .inr r => r)
end
structure ZP (n : Nat) (Bg : Int) (st : PS) : Prop where
 tr : 0 ≤ st.tr ∧ st.tr ≤ Bg
 best : ∀ b, st.best = some b → b.length = n
structure zb4 (l : List Job) (tk : Int) (plan : List zX) (free : List Int) : Prop where
 tk : zbZ l.length tk
 plan : plan.length = l.length
 free : 1 ≤ free.length ∧ free.length ≤ 4
theorem zb4.step {l : List Job} {tk : Int} {plan : List zX} {free : List Int} (h : zb4 l tk plan free) (hn : l.length ≤ 12) {i : Nat} (hi : i < l.length) (sl : zX) (x : Nat) (e : Int) : zb4 l (tkI tk i) (plan.set i sl) (free.set x e) :=
 ⟨(xC h.tk hi hn).1, by rw [List.length_set]; exact h.plan, by rw [List.length_set]; exact h.free⟩
structure Ans where
 ret : Bool
 tk : Int
 len : Int
 bd : Int
 tr : Int
 bg : Int
 ov : Bool
 plan : List zX
 free : List Int
 best : Option (List zX)
abbrev TA1 := Bool × Int × Int × Int × Int × Int × Bool × List zX × List Int
abbrev TA2 := Bool × Int × Int × Int × Int × Int × Bool × List zX × List Int × List zX
abbrev TB2 := Bool × Int × Int × Int × Int × Int × Bool × List zX × List Int × List zX × List zX
def zSo : TA1 ⊕ TA2 → Ans
 | .inl r => ⟨r.1, r.2.1, r.2.2.1, r.2.2.2.1, r.2.2.2.2.1, r.2.2.2.2.2.1, r.2.2.2.2.2.2.1, r.2.2.2.2.2.2.2.1, r.2.2.2.2.2.2.2.2, none⟩
 | .inr r => ⟨r.1, r.2.1, r.2.2.1, r.2.2.2.1, r.2.2.2.2.1, r.2.2.2.2.2.1, r.2.2.2.2.2.2.1, r.2.2.2.2.2.2.2.1, r.2.2.2.2.2.2.2.2.1, some r.2.2.2.2.2.2.2.2.2⟩
def zsI : TA2 ⊕ TB2 → Ans
 | .inl r => ⟨r.1, r.2.1, r.2.2.1, r.2.2.2.1, r.2.2.2.2.1, r.2.2.2.2.2.1, r.2.2.2.2.2.2.1, r.2.2.2.2.2.2.2.1, r.2.2.2.2.2.2.2.2.1, some r.2.2.2.2.2.2.2.2.2⟩
 | .inr r => ⟨r.1, r.2.1, r.2.2.1, r.2.2.2.1, r.2.2.2.2.1, r.2.2.2.2.2.1, r.2.2.2.2.2.2.1, r.2.2.2.2.2.2.2.1, r.2.2.2.2.2.2.2.2.1, some r.2.2.2.2.2.2.2.2.2.2⟩
structure Zf (n : Nat) (Bd Bg : Int) (tk : Int) (plan : List zX) (free : List Int) (r : PS × Nat) (o : Ans) : Prop where
 ret : o.ret = decide (r.2 ≠ 0)
 len : o.len = r.1.len
 bd : o.bd = Bd
 tr : o.tr = r.1.tr
 bg : o.bg = Bg
 ov : o.ov = decide (r.2 = 2)
 best : o.best = r.1.best
 back : r.2 = 0 → o.tk = tk ∧ o.plan = plan ∧ o.free = free
 ok : r.2 ≠ 2 → ZP n Bg r.1
structure zrx (l : List Job) (Bd Bg : Int) (k : Nat) (D : zpg) : Prop where
 a : ∀ tk plan free day st, zb4 l tk plan free → ZP l.length Bg st → xp tk 0 l.length < k → st.best = none →
  ∃ r, D.a day tk st.len Bd st.tr Bg false l plan free = some r ∧ Zf l.length Bd Bg tk plan free (go l Bd Bg k tk plan free day st) (zSo r)
 b : ∀ tk plan free day st b, zb4 l tk plan free → ZP l.length Bg st → xp tk 0 l.length < k → st.best = some b →
  ∃ r, D.b day tk st.len Bd st.tr Bg false l plan free b = some r ∧ Zf l.length Bd Bg tk plan free (go l Bd Bg k tk plan free day st) (zsI r)
end Go.RR
namespace Go.RR
open Go
open Go.IntKind (wrap)
theorem zST {l : List Job} {H : Nat} {tk : Int} {p : List zX} {fr : List Int} (h : zb3 l H tk p fr) (hv : VJ l) (hH : 1 ≤ H ∧ H ≤ 4) {i : Nat} (hi : i < l.length) (hw : ∀ k, k < l.length → ya l i k = true → tb tk k = true) :
  ∃ x : Nat, x < H ∧ (zh l p fr i).1 = (x : Int) ∧ (zh l p fr i).2 = max (fr.getD x 0) (yZ l p i) := by
 have hx := zOi fr (yZ l p i) (fr.length - 1)
 have hl := h.flen
 have hx2 : atB fr (yZ l p i) (fr.length - 1) < H := by omega
 have h1 := h.fr_le hv hx2
 have h2 := (zuP h hv hi hw).2
 have h3 := ve hv tk
 refine ⟨atB fr (yZ l p i) (fr.length - 1), hx2, ?_, ?_⟩
 ·show wrap .i8 _ = _
  exact IntWalk.i8_in _ (by omega)
 ·show wrap .i16 _ = _
  exact IntWalk.i16_in _ (by omega)
theorem zUj {l : List Job} (hv : VJ l) {sl : zX} {i : Nat} (hi : i < l.length) (h : 0 ≤ sl.2 ∧ sl.2 ≤ 1000) : yk l sl i = sl.2 + dn l i := by
 have := hv.days i hi
 unfold yk
 rw [IntWalk.i64_in sl.2 (by omega), IntWalk.i64_in (l.getD i (0, 0)).1 (by show -9223372036854775808 ≤ dn l i ∧ dn l i ≤ 9223372036854775807; omega), IntWalk.i64_in _ (by show -9223372036854775808 ≤ sl.2 + dn l i ∧ sl.2 + dn l i ≤ 9223372036854775807; omega)]
theorem zLg {l : List Job} (hv : VJ l) {tk : Int} (ht : zbZ l.length tk) {i : Nat} (hi : i < l.length) (hb : tb tk i = false) : zgy l (tkI tk i) = zgy l tk + dn l i := by
 have h2 := (xC ht hi hv.len).2
 unfold zgy
 rw [zrn (f := fun k => cond (tb tk k) (dn l k) 0) (g := fun k => cond (tb (tkI tk i) k) (dn l k) 0) (j := i) (fun k hk => by
  show cond (tb (tkI tk i) k) _ _ = cond (tb tk k) _ _
  rw [h2, decide_eq_false (fun e => hk e.symm), Bool.or_false]) _ hi]
 show _ + (cond (tb (tkI tk i) i) (dn l i) 0 - cond (tb tk i) (dn l i) 0) = _
 rw [h2, hb, decide_eq_true rfl]
 simp
theorem zb3.step {l : List Job} {H : Nat} {tk : Int} {p : List zX} {fr : List Int} (h : zb3 l H tk p fr) (hv : VJ l) (hH : 1 ≤ H ∧ H ≤ 4) {i : Nat} (hi : i < l.length) (hb : tb tk i = false) (hw : ∀ k, k < l.length → ya l i k = true → tb tk k = true) :
  zb3 l H (tkI tk i) (p.set i (zh l p fr i)) (fr.set (zh l p fr i).1.toNat (yk l (zh l p fr i) i)) ∧ (∀ k, k ≠ i → en l (p.set i (zh l p fr i)) k = en l p k) ∧ yk l (zh l p fr i) i = en l (p.set i (zh l p fr i)) i := by
 obtain ⟨x, hx, e1, e2⟩ := zST h hv hH hi hw
 obtain ⟨r1, r2, r3⟩ := zuP h hv hi hw
 obtain ⟨t1, t2⟩ := xC h.tok hi hv.len
 have hfr := h.fr_le hv hx
 have hs := ve hv tk
 have hst := zLg hv h.tok hi hb
 have hd := hv.days i hi
 have hend := zUj hv hi (sl := zh l p fr i) (by omega)
 have hpi : i < p.length := by rw [h.plen]; exact hi
 have gi : (p.set i (zh l p fr i)).getD i (0, 0) = zh l p fr i := UP hpi
 have gn : ∀ k, k ≠ i → (p.set i (zh l p fr i)).getD k (0, 0) = p.getD k (0, 0) := fun k hk => getD_set_ne (fun e => hk e.symm)
 have sti : stt (p.set i (zh l p fr i)) i = max (fr.getD x 0) (yZ l p i) := by show ((p.set i (zh l p fr i)).getD i (0, 0)).2 = _; rw [gi, e2]
 have hdi : hnd (p.set i (zh l p fr i)) i = (x : Int) := by show ((p.set i (zh l p fr i)).getD i (0, 0)).1 = _; rw [gi, e1]
 have stn : ∀ k, k ≠ i → stt (p.set i (zh l p fr i)) k = stt p k := fun k hk => by show ((p.set i (zh l p fr i)).getD k (0, 0)).2 = _; rw [gn k hk]
 have hdn : ∀ k, k ≠ i → hnd (p.set i (zh l p fr i)) k = hnd p k := fun k hk => by show ((p.set i (zh l p fr i)).getD k (0, 0)).1 = _; rw [gn k hk]
 have enn : ∀ k, k ≠ i → en l (p.set i (zh l p fr i)) k = en l p k := fun k hk => by show stt _ k + _ = stt p k + _; rw [stn k hk]
 have eni : en l (p.set i (zh l p fr i)) i = max (fr.getD x 0) (yZ l p i) + dn l i := by show stt _ i + _ = _; rw [sti]
 have tn : ∀ k, k ≠ i → tb (tkI tk i) k = tb tk k := fun k hk => by rw [t2, decide_eq_false (fun e => hk e.symm), Bool.or_false]
 have ti : tb (tkI tk i) i = true := by rw [t2, decide_eq_true rfl, Bool.or_true]
 have hend : yk l (zh l p fr i) i = max (fr.getD x 0) (yZ l p i) + dn l i := by rw [hend, e2]
 have hxl : x < fr.length := by rw [h.flen]; exact hx
 rw [e1, zd, hend]
 have fx : (fr.set x (max (fr.getD x 0) (yZ l p i) + dn l i)).getD x 0 = max (fr.getD x 0) (yZ l p i) + dn l i := UP hxl
 have fn : ∀ y, y ≠ x → (fr.set x (max (fr.getD x 0) (yZ l p i) + dn l i)).getD y 0 = fr.getD y 0 := fun y hy => getD_set_ne (fun e => hy e.symm)
 refine ⟨⟨t1, by rw [List.length_set]; exact h.plen, by rw [List.length_set]; exact h.flen, ?_, ?_, ?_, ?_, ?_, ?_, ?_⟩, enn, eni.symm⟩
 ·intro k hk hbk
  by_cases e : k = i
  ·subst e; exact ⟨x, hdi, hx⟩
  ·rw [hdn k e]
   exact h.hand k hk (by rw [← tn k e]; exact hbk)
 ·intro k hk hbk
  by_cases e : k = i
  ·subst e
   rw [sti, eni, hst]; omega
  ·rw [stn k e, enn k e, hst]
   have := h.pos k hk (by rw [← tn k e]; exact hbk)
   omega
 ·intro k q hk hbk hq hwq
  by_cases e : k = i
  ·subst e
   have hbq := hw q hq hwq
   have hne : q ≠ k := fun e => by rw [e, hb] at hbq; cases hbq
   refine ⟨by rw [tn q hne]; exact hbq, ?_⟩
   rw [enn q hne, sti]
   have := r1 q hq hwq
   omega
  ·obtain ⟨a, b⟩ := h.wait k q hk (by rw [← tn k e]; exact hbk) hq hwq
   have hne : q ≠ i := fun e => by rw [e, hb] at a; cases a
   exact ⟨by rw [tn q hne]; exact a, by rw [enn q hne, stn k e]; exact b⟩
 ·intro k hk hbk
  by_cases e : k = i
  ·subst e
   rw [hdi, zd, fx, eni]; omega
  ·rw [enn k e, hdn k e]
   obtain ⟨y, y1, y2⟩ := h.hand k hk (by rw [← tn k e]; exact hbk)
   have ht := h.top k hk (by rw [← tn k e]; exact hbk)
   rw [y1, zd] at ht ⊢
   by_cases hy : y = x
   ·subst hy; rw [fx]; omega
   ·rw [fn y hy]; exact ht
 ·intro a b ha hb2 hta htb hab hh
  by_cases e : a = i
  ·subst e
   have hba : b ≠ a := fun e => hab e.symm
   have hbb : tb tk b = true := by rw [← tn b hba]; exact htb
   have ht := h.top b hb2 hbb
   rw [hdi, hdn b hba] at hh
   rw [← hh, zd] at ht
   right
   rw [enn b hba, sti]; omega
  ·by_cases e2 : b = i
   ·subst e2
    have hba : tb tk a = true := by rw [← tn a e]; exact hta
    have ht := h.top a ha hba
    rw [hdi, hdn a e] at hh
    rw [hh, zd] at ht
    left
    rw [enn a e, sti]; omega
   ·rw [enn a e, enn b e2, stn a e, stn b e2]
    rw [hdn a e, hdn b e2] at hh
    exact h.apart a b ha hb2 (by rw [← tn a e]; exact hta) (by rw [← tn b e2]; exact htb) hab hh
 ·intro y hy
  have hl : zja l (tkI tk i) (p.set i (zh l p fr i)) y = zja l tk p y + cond (y == x) (dn l i) 0 := by
   unfold zja
   rw [zrn (f := fun k => cond (tb tk k && (hnd p k == (y : Int))) (dn l k) 0) (g := fun k => cond (tb (tkI tk i) k && (hnd (p.set i (zh l p fr i)) k == (y : Int))) (dn l k) 0) (j := i) (fun k hk => by
    show cond (tb (tkI tk i) k && (hnd (p.set i (zh l p fr i)) k == (y : Int))) _ _ = cond (tb tk k && (hnd p k == (y : Int))) _ _
    rw [tn k hk, hdn k hk]) _ hi]
   show _ + (cond (tb (tkI tk i) i && (hnd (p.set i (zh l p fr i)) i == (y : Int))) (dn l i) 0 - cond (tb tk i && (hnd p i == (y : Int))) (dn l i) 0) = _
   rw [ti, hb, hdi]
   have : (((x : Nat) : Int) == ((y : Nat) : Int)) = (y == x) := by
    by_cases e : y = x
    ·subst e; simp
    ·rw [show (y == x) = false from by simpa using e]
     exact beq_eq_false_iff_ne.2 (by omega)
   rw [this]
   simp
  have ho := h.load y hy
  rw [hl]
  by_cases e : y = x
  ·subst e
   rw [fx, show (y == y) = true from by simp, cond_true]; omega
  ·rw [fn y e, show (y == x) = false from by simpa using e, cond_false]; omega
 ·intro y hy
  by_cases e : y = x
  ·subst e
   exact .inr ⟨i, hi, ti, by rw [fx, eni]⟩
  ·rw [fn y e]
   rcases h.made y hy with h0 | ⟨k, k1, k2, k3⟩
   ·exact .inl h0
   ·have hne : k ≠ i := fun e => by rw [e, hb] at k2; cases k2
    exact .inr ⟨k, k1, by rw [tn k hne]; exact k2, by rw [enn k hne]; exact k3⟩
end Go.RR
namespace Go.RR
open Go
open Go.IntKind (wrap)
structure Ui (l : List Job) (H : Nat) (p : List zX) : Prop where
 ex : ∃ tk fr, zb3 l H tk p fr ∧ ∀ i, i < l.length → tb tk i = true
noncomputable def ziq (l : List Job) : Int := sm (dn l) l.length
theorem zf5 {l : List Job} {tk : Int} (h : ∀ i, i < l.length → tb tk i = true) : zgy l tk = ziq l :=
 VU _ fun i hi => by rw [h i hi, cond_true]
theorem zEP (l : List Job) (p : List zX) : Xs l p = Yu (fun _ => true) (yN l p) (List.range' 0 l.length) 0 := (zbp _ _ fun _ _ => rfl).symm
section
variable {l : List Job} {H : Nat} {p : List zX} (hv : VJ l) (hb : Ui l H p)
include hv hb
theorem wc {i : Nat} (hi : i < l.length) : 0 ≤ stt p i ∧ stt p i ≤ 1000 := by
 obtain ⟨tk, fr, h, ht⟩ := hb.ex
 exact h.st_le hv hi (ht i hi)
theorem zkW {i : Nat} (hi : i < l.length) : en l p i ≤ Xs l p ∧ 0 ≤ Xs l p := by
 have e := zbq hv hi (wc hv hb hi)
 rw [zEP]
 obtain ⟨h1, h2⟩ := zru (fun _ => true) (yN l p) (List.range' 0 l.length) 0
 rw [← e]
 exact ⟨h2 i (by rw [List.mem_range'_1]; omega) rfl, h1⟩
theorem VM : 0 ≤ Xs l p ∧ Xs l p ≤ ziq l := by
 obtain ⟨tk, fr, h, ht⟩ := hb.ex
 have hs := ve hv tk
 rw [← zf5 ht]
 rw [zEP]
 have key : ∀ (ks : List Nat) (m : Int), (∀ k ∈ ks, k < l.length) → 0 ≤ m → m ≤ zgy l tk → 0 ≤ Yu (fun _ => true) (yN l p) ks m ∧ Yu (fun _ => true) (yN l p) ks m ≤ zgy l tk := by
  intro ks
  induction ks with
  | nil => intro m _ h0 h1; exact ⟨h0, h1⟩
  | cons k ks ih =>
   intro m hm h0 h1
   have hk := hm k (by simp)
   have h2 := h.pos k hk (ht k hk)
   have h3 := zbq hv hk (h.st_le hv hk (ht k hk))
   refine ih (max m (yN l p k)) (fun k' h' => hm k' (by simp [h'])) ?_ ?_
   ·omega
   ·rw [h3]; omega
 exact key _ 0 (fun k hk => by rw [List.mem_range'_1] at hk; omega) (Int.le_refl _) hs.1
theorem zj6 {i : Nat} (hi : i < l.length) : ∃ h : Nat, hnd p i = (h : Int) ∧ h < H := by
 have _ := hv
 obtain ⟨tk, fr, h, ht⟩ := hb.ex
 exact h.hand i hi (ht i hi)
theorem zA2 {h : Nat} (hh : h < H) : 0 ≤ sm (fun i => cond (hnd p i == (h : Int)) (dn l i) 0) l.length ∧ sm (fun i => cond (hnd p i == (h : Int)) (dn l i) 0) l.length ≤ Xs l p := by
 obtain ⟨tk, fr, h1, ht⟩ := hb.ex
 have h0 := VM hv hb
 have e : sm (fun i => cond (hnd p i == (h : Int)) (dn l i) 0) l.length = zja l tk p h := VU _ fun i hi => by rw [ht i hi, Bool.true_and]
 refine ⟨?_, ?_⟩
 ·have := zyo (f := fun _ => 0) (g := fun i => cond (hnd p i == (h : Int)) (dn l i) 0) l.length fun i hi => by
   have := hv.days i hi
   show 0 ≤ cond (hnd p i == (h : Int)) (dn l i) 0
   cases hnd p i == (h : Int)
   ·simp
   ·simp only [cond_true]; omega
  rwa [zbN] at this
 ·rw [e]
  have := h1.load h hh
  rcases h1.made h hh with e2 | ⟨i, i1, i2, i3⟩
  ·omega
  ·have := (zkW hv hb i1).1
   omega
theorem zBe : sm (fun h => sm (fun i => cond (hnd p i == (h : Int)) (dn l i) 0) l.length) H = ziq l := by
 rw [zDY (fun h i => cond (hnd p i == (h : Int)) (dn l i) 0) l.length H]
 refine VU _ fun i hi => ?_
 obtain ⟨x, x1, x2⟩ := zj6 hv hb hi
 rw [x1]
 have : (fun h : Nat => cond ((x : Int) == (h : Int)) (dn l i) 0) = fun h : Nat => cond (x == h) (dn l i) 0 := by
  funext h
  by_cases e : x = h
  ·subst e; simp
  ·rw [show (x == h) = false from by simpa using e, show ((x : Int) == (h : Int)) = false from beq_eq_false_iff_ne.2 (by omega)]
 rw [this, zUF _ x2]
theorem zIt : ziq l ≤ (H : Int) * Xs l p := by
 rw [← zBe hv hb, ← zjQ]
 exact zyo _ fun h hh => (zA2 hv hb hh).2
theorem zAJ : ∀ (xs : List Int), (∀ x ∈ xs, ∃ j : Nat, j < l.length ∧ x = (j : Int)) → ∀ st : List Int, st.length = l.length →
  (∀ k, k < l.length → 0 ≤ st.getD k 0 ∧ (st.getD k 0 = 0 ∨ stt p k + st.getD k 0 ≤ Xs l p)) →
  ∀ k, k < l.length → 0 ≤ (xs.foldl (Wd l) st).getD k 0 ∧ ((xs.foldl (Wd l) st).getD k 0 = 0 ∨ stt p k + (xs.foldl (Wd l) st).getD k 0 ≤ Xs l p) := by
 intro xs
 induction xs with
 | nil => intro _ st _ h; exact h
 | cons x xs ih =>
  intro hx st hst h
  rw [List.foldl_cons]
  obtain ⟨j, hj, rfl⟩ := hx x (by simp)
  refine ih (fun y hy => hx y (by simp [hy])) (Wd l st (j : Int)) (by rw [zbO]; exact hst) ?_
  have hlen := VM hv hb
  have hs : ziq l ≤ 360 := by
   obtain ⟨tk, fr, h1, ht⟩ := hb.ex
   rw [← zf5 ht]; exact (ve hv tk).2
  have hdj := hv.days j hj
  have hej := (zkW hv hb hj).1
  have hsj := wc hv hb hj
  have hm : ∀ (ks : List Nat) (m : Int), (∀ k ∈ ks, k < l.length) → 0 ≤ m → en l p j + m ≤ Xs l p → 0 ≤ Ut l st j ks m ∧ en l p j + Ut l st j ks m ≤ Xs l p := by
   intro ks
   induction ks with
   | nil => intro m _ h0 h1; exact ⟨h0, h1⟩
   | cons k ks ih2 =>
    intro m hk h0 h1
    show 0 ≤ Ut l st j ks (cond (ya l k j) (max m (st.getD k 0)) m) ∧ en l p j + Ut l st j ks (cond (ya l k j) (max m (st.getD k 0)) m) ≤ _
    have hkl := hk k (by simp)
    refine ih2 _ (fun k' h' => hk k' (by simp [h'])) ?_ ?_
    ·cases ya l k j
     ·exact h0
     ·simp only [cond_true]; omega
    ·cases hw : ya l k j
     ·exact h1
     ·simp only [cond_true]
      obtain ⟨tk, fr, h2, ht⟩ := hb.ex
      have h3 := (h2.wait k j hkl (ht k hkl) hj hw).2
      obtain ⟨a, b⟩ := h k hkl
      rcases b with b | b
      ·rw [b]; omega
      ·omega
  intro k hk
  unfold Wd
  rw [zd]
  by_cases e : k = j
  ·subst e
   rw [UP (by omega)]
   obtain ⟨a, b⟩ := hm (List.range' 0 l.length) 0 (fun k hk => by rw [List.mem_range'_1] at hk; omega) (Int.le_refl _) (by omega)
   have hen : en l p k = stt p k + dn l k := rfl
   rw [IntWalk.i64_in (l.getD k (0, 0)).1 (by show -9223372036854775808 ≤ dn l k ∧ dn l k ≤ 9223372036854775807; omega), IntWalk.i64_in _ (by show -9223372036854775808 ≤ _ + dn l k ∧ _ + dn l k ≤ 9223372036854775807; omega)]
   show 0 ≤ _ + dn l k ∧ (_ + dn l k = 0 ∨ stt p k + (_ + dn l k) ≤ _)
   omega
  ·rw [getD_set_ne (fun e2 => e e2.symm)]
   exact h k hk
theorem zAF : zvD l ≤ Xs l p := by
 have h0 := VM hv hb
 have ht := zAJ hv hb (xe l).reverse (fun x hx => zsk x (List.mem_reverse.1 hx)) (List.replicate l.length 0) (by simp) fun k hk => by
  rw [yU 0 (by simpa using hk)]
  simp
 unfold zvD
 obtain ⟨_, _, h3⟩ := ztH (ZH l) 0
 rcases h3 with h3 | h3
 ·rw [h3]; exact h0.1
 ·obtain ⟨k, hk, ek⟩ := List.getElem_of_mem h3
  have hk2 : k < l.length := by rw [zgC] at hk; exact hk
  have := ht k hk2
  have e : (ZH l).getD k 0 = (ZH l).foldl (fun (m : Int) x => max m x) 0 := by rw [yU 0 hk, ek]
  have hs := (wc hv hb hk2).1
  have h2 : (List.foldl (Wd l) (List.replicate l.length 0) (xe l).reverse).getD k 0 = (ZH l).foldl (fun (m : Int) x => max m x) 0 := e
  rw [h2] at this
  omega
theorem zAb (hH : 1 ≤ H ∧ H ≤ 4) : ZO l (H : Int) ≤ Xs l p := by
 have h0 := VM hv hb
 have h1 := zAF hv hb
 have h2 := zIt hv hb
 have hs : 0 ≤ ziq l ∧ ziq l ≤ 360 := by
  obtain ⟨tk, fr, h1, ht⟩ := hb.ex
  rw [← zf5 ht]; exact ve hv tk
 have hd : zTe l = ziq l := by
  have key : ∀ n, n ≤ l.length → (l.take n).foldl (fun (m : Int) x => wrap .i64 (m + wrap .i64 x.1)) 0 = sm (dn l) n ∧ 0 ≤ sm (dn l) n ∧ sm (dn l) n ≤ (n : Int) * 30 := by
   intro n
   induction n with
   | zero => intro _; exact ⟨rfl, Int.le_refl _, by simp [sm]⟩
   | succ n ih =>
    intro hn
    obtain ⟨a, b, c⟩ := ih (by omega)
    have hdn := hv.days n (by omega)
    have hl := hv.len
    have e1 : l.take (n + 1) = l.take n ++ [l[n]] := by rw [List.take_succ_eq_append_getElem (by omega)]
    have e2 : l[n].1 = dn l n := by show _ = (l.getD n (0, 0)).1; rw [yU (0, 0) (show n < l.length by omega)]
    have e3 : sm (dn l) (n + 1) = sm (dn l) n + dn l n := rfl
    rw [e1, List.foldl_append, a]
    simp only [List.foldl_cons, List.foldl_nil]
    rw [e2, IntWalk.i64_in (dn l n) (by omega), IntWalk.i64_in _ (by omega), e3]
    exact ⟨rfl, by omega, by omega⟩
  have := (key l.length (Nat.le_refl _)).1
  rw [List.take_length] at this
  exact this
 unfold ZO
 rw [hd, IntWalk.i64_in (ziq l + (H : Int)) (by omega), IntWalk.i64_in (ziq l + (H : Int) - 1) (by omega), Int.tdiv_eq_ediv_of_nonneg (by omega)]
 obtain ⟨m1, m2⟩ : 0 ≤ (ziq l + (H : Int) - 1) / (H : Int) ∧ (ziq l + (H : Int) - 1) / (H : Int) ≤ Xs l p := by
  obtain rfl | rfl | rfl | rfl : H = 1 ∨ H = 2 ∨ H = 3 ∨ H = 4 := by omega
  all_goals
   constructor <;> omega
 rw [IntWalk.i64_in _ (by omega)]
 omega
end
end Go.RR
