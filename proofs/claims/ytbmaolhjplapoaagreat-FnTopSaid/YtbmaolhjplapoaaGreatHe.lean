/- Plain facts of plans: faults, codes, lengths, busy and idle days, orders. -/
import Derived.Test.YtbmaolhjplapoaaGreatHc
import Derived.Test.YtbmaolhjplapoaaGreatVx
import Derived.Test.YtbmaolhjplapoaaGreatVq
set_option linter.unusedVariables false
set_option linter.unusedSimpArgs false
namespace Go.RR
open Go
open Go.IntKind (wrap)
noncomputable def zG2 (h : Int) (l : List Job) (p : List zX) (i k : Nat) : Bool :=
 cond (!(YG h (p.getD k (0, 0)).1 (p.getD k (0, 0)).2)) false
  (cond (cond (ya l i k) (decide (wrap .i64 (p.getD i (0, 0)).2 < yN l p k)) false) true
   (cond (decide ((k : Int) < (i : Int))) (cond ((p.getD k (0, 0)).1 == (p.getD i (0, 0)).1) (cond (decide (wrap .i64 (p.getD i (0, 0)).2 < yN l p k)) (decide (wrap .i64 (p.getD k (0, 0)).2 < yN l p i)) false) false) false))
noncomputable def uO (h : Int) (l : List Job) (p : List zX) (i : Nat) : Bool :=
 cond (!(YG h (p.getD i (0, 0)).1 (p.getD i (0, 0)).2)) true (!((List.range' 0 l.length).all fun k => !(zG2 h l p i k)))
noncomputable def zqx (h : Int) (l : List Job) (p : List zX) : Int := match (List.range' 0 l.length).find? (uO h l p) with
 | some j => (j : Int)
 | none => -1
theorem zyn {h : Int} {l : List Job} {p : List zX} (hj : yh l) (hn : l.length ≤ 12) (hp : p.length = l.length) {i : Nat} (hi : i < l.length) : zlN i p h l = some (uO h l p i) := by
 unfold zlN zmb
 try dsimp (config := {proj := false, iota := false, eta := false}) only
 rw [zg (show i < p.length by omega), zd, cond_true]
 have es : ∀ x y : Int, zjW x y h = YG h x y := fun x y => rfl
 rw [es]
 have key : ui ((i : Int), ((p.length : Nat) : Int), 0, h, l, (p.getD i (0, 0)).1, (p.getD i (0, 0)).2, p) = some (cond ((List.range' 0 p.length).all fun k => !(zG2 h l p i k)) false true) := by
  unfold ui
  refine XV (step := fun x => WI x.1 x.2.1 x.2.2.1 x.2.2.2.1 x.2.2.2.2.1 x.2.2.2.2.2.1 x.2.2.2.2.2.2.1 x.2.2.2.2.2.2.2) p.length (fun k => ((i : Int), ((p.length : Nat) : Int), (k : Int), h, l, (p.getD i (0, 0)).1, (p.getD i (0, 0)).2, p)) (fun k => !(zG2 h l p i k)) _ _ (by omega) ?_ ?_
  ·intro k hk
   show WI i (p.length : Nat) k h l (p.getD i (0, 0)).1 (p.getD i (0, 0)).2 p = _
   unfold WI uH
   try dsimp (config := {proj := false, iota := false, eta := false}) only
   rw [zD hk, zg hk, zg hi, zg (show k < l.length by omega), zd, zd, zgx hj hi, es, zH (by omega)]
   have e1 : xB (l.getD k (0, 0)).1 (l.getD k (0, 0)).2 (p.getD k (0, 0)).1 (p.getD k (0, 0)).2 = yN l p k := rfl
   have e2 : xB (l.getD i (0, 0)).1 (l.getD i (0, 0)).2 (p.getD i (0, 0)).1 (p.getD i (0, 0)).2 = yN l p i := rfl
   rw [e1, e2]
   unfold zG2
   simp only [cond_true, Option.bind]
   cases YG h (p.getD k (0, 0)).1 (p.getD k (0, 0)).2
   ·rfl
   ·cases ya l i k <;> cases decide (wrap .i64 (p.getD i (0, 0)).2 < yN l p k) <;> cases decide ((k : Int) < (i : Int)) <;> cases ((p.getD k (0, 0)).1 == (p.getD i (0, 0)).1) <;> cases decide (wrap .i64 (p.getD k (0, 0)).2 < yN l p i) <;> rfl
  ·show WI i (p.length : Nat) (p.length : Nat) h l (p.getD i (0, 0)).1 (p.getD i (0, 0)).2 p = _
   unfold WI uH
   try dsimp (config := {proj := false, iota := false, eta := false}) only
   rw [zS, cond_false]
 rw [key, hp]
 unfold uO
 cases YG h (p.getD i (0, 0)).1 (p.getD i (0, 0)).2
 ·rfl
 ·cases (List.range' 0 l.length).all fun k => !(zG2 h l p i k) <;> rfl
theorem zJB {h : Int} {l : List Job} {p : List zX} (hj : yh l) (hn : l.length ≤ 12) (hp : p.length = l.length) : zlF l h p = some (zqx h l p) := by
 unfold zlF
 rw [zk1 hn]
 simp only [Option.bind]
 unfold zhF zcX
 have hlen : ((List.range' 0 l.length).map fun i : Nat => (i : Int)).length = l.length := by simp
 rw [hlen]
 have hs1 : ∀ i, i < l.length → Xb (l.length : Nat) i ((List.range' 0 l.length).map fun i : Nat => (i : Int)) p h l = some (cond (uO h l p i) (Sum.inr (i : Int)) (Sum.inl (((l.length : Nat) : Int), ((i + 1 : Nat) : Int), (List.range' 0 l.length).map (fun i : Nat => (i : Int)), p, h, l))) := by
  intro i hi
  unfold Xb
  have hg : ((List.range' 0 l.length).map fun i : Nat => (i : Int)).getD i 0 = (i : Int) := by
   rw [List.getD_eq_getElem?_getD, List.getElem?_map, List.getElem?_range' hi]
   simp
  rw [hlen, zD hi, zg hi, zd, hg, zyn hj hn hp hi, zH (by omega)]
  simp only [cond_true, Option.bind]
  cases uO h l p i <;> rfl
 have he1 : Xb (l.length : Nat) (l.length : Nat) ((List.range' 0 l.length).map fun i : Nat => (i : Int)) p h l = some (Sum.inr (-1)) := by
  unfold Xb
  rw [zS, cond_false]
 obtain ⟨r, h1, _, h3⟩ := zbr (step := fun x => Xb x.1 x.2.1 x.2.2.1 x.2.2.2.1 x.2.2.2.2.1 x.2.2.2.2.2) l.length (fun i => (((l.length : Nat) : Int), (i : Int), (List.range' 0 l.length).map (fun i : Nat => (i : Int)), p, h, l)) (uO h l p) hs1 he1 l.length 0 FU (by omega) (yC (ym (by omega)))
 have h1 : zI (fun x => Xb x.1 x.2.1 x.2.2.1 x.2.2.2.1 x.2.2.2.2.1 x.2.2.2.2.2) FU (((l.length : Nat) : Int), 0, (List.range' 0 l.length).map (fun i : Nat => (i : Int)), p, h, l) = some r := h1
 rw [h1, h3]; rfl
noncomputable def zl1 (h : Int) (l : List Job) (p : List zX) : Bool := decide (p.length = l.length) && decide (zqx h l p < 0)
noncomputable def zp1 (h : Int) (l : List Job) (p : List zX) : Bool := yI l && (xS h && zl1 h l p)
theorem zoS {h : Int} {l : List Job} {p : List zX} (hj : yh l) (hl : l.length ≤ 100000000) : zax l h p = some (zp1 h l p) := by
 unfold zax zjs zp1
 try dsimp (config := {proj := false, iota := false, eta := false}) only
 have eh : W1 h = xS h := rfl
 rw [zBh l hl, zEC, eh]
 cases hv : yI l
 ·rfl
 ·obtain ⟨hn, _⟩ := Yg hv
  unfold zl1
  by_cases hp : p.length = l.length
  ·rw [decide_eq_true hp, zJB hj hn hp]
   cases xS h <;> rfl
  ·rw [decide_eq_false hp]
   cases xS h <;> rfl
noncomputable def zD9 (h : Int) (l : List Job) (p : List zX) : Int := cond (!(yI l)) 1 (cond (!(xS h)) 2 (cond (!(zl1 h l p)) 1 0))
theorem zPm {h : Int} {l : List Job} {p : List zX} (hj : yh l) (hl : l.length ≤ 100000000) : zeN l h p = some (zD9 h l p) := by
 unfold zeN zD9
 have eh : W1 h = xS h := rfl
 rw [zBh l hl, eh, zoS hj hl]
 unfold zp1
 cases hv : yI l
 ·cases xS h <;> rfl
 ·cases xS h
  ·rfl
  ·cases zl1 h l p <;> rfl
theorem zSR {l : List Job} {p : List zX} (hn : l.length ≤ 12) (hp : p.length = l.length) : zeS l p = some (Xs l p) := by
 unfold zeS zdj
 refine yp (step := fun x => wB x.1 x.2.1 x.2.2.1 x.2.2.2.1 x.2.2.2.2) l.length (fun i (m : Int) => (m, ((l.length : Nat) : Int), (i : Int), p, l)) (fun m k => max m (yN l p k)) _ 0 (by omega) ?_ ?_
 ·intro i m hi
  show wB m (l.length : Nat) i p l = _
  unfold wB
  rw [zD hi, zg hi, zg (show i < p.length by omega), zd, zH (by omega)]
  rfl
 ·show wB _ (l.length : Nat) (l.length : Nat) p l = _
  unfold wB
  rw [zS, cond_false]; rfl
noncomputable def okO (l : List Job) (done x : Int) : Bool := zK x 0 (((l.length : Nat) : Int) - 1) && (!(yz .u16 done x % 2 == 1) && (zO .u16 (l.getD x.toNat (0, 0)).2 done == 0))
noncomputable def isO (l : List Job) : Int → List Int → Bool
 | _, [] => true
 | done, x :: r => cond (okO l done x) (isO l (bOr .u16 done (yl .u16 1 x)) r) false
noncomputable def Y6 (l : List Job) (s : List zX × List Int) (x : Int) : List zX × List Int :=
 (s.1.set x.toNat (zh l s.1 s.2 x.toNat), s.2.set (zh l s.1 s.2 x.toNat).1.toNat (wrap .i64 (wrap .i64 (zh l s.1 s.2 x.toNat).2 + wrap .i64 (l.getD x.toNat (0, 0)).1)))
theorem zMm {l : List Job} {x : Int} (h : zK x 0 (((l.length : Nat) : Int) - 1) = true) : ∃ j : Nat, j < l.length ∧ x = (j : Int) := by
 unfold zK at h
 by_cases h1 : x ≥ 0
 ·rw [decide_eq_true h1, cond_true] at h
  have := of_decide_eq_true h
  exact ⟨x.toNat, by omega, by omega⟩
 ·rw [decide_eq_false h1, cond_false] at h; cases h
theorem zoJ {l : List Job} {s : List zX × List Int} {x : Int} : (Y6 l s x).1.length = s.1.length ∧ (Y6 l s x).2.length = s.2.length := by simp [Y6]
theorem zIN {l : List Job} {ord : List Int} (hj : yh l) (hn : l.length ≤ 12) (ho : ord.length ≤ 1100000) : ∀ (r : List Int) (i m : Nat) (done : Int) (s : List zX × List Int), ord.drop i = r → i + r.length = ord.length → r.length < m → 0 ≤ done → s.1.length = l.length → (1 ≤ s.2.length ∧ s.2.length ≤ 4) →
  zI (fun x => XG x.1 x.2.1 x.2.2.1 x.2.2.2.1 x.2.2.2.2.1 x.2.2.2.2.2) m (done, (i : Int), l, ord, s.1, s.2) = some (cond (isO l done r) ((r.foldl (Y6 l) s).1, 0) ([], 4)) := by
 intro r
 induction r with
 | nil =>
  intro i m done s hd hi hm h0 hp hf
  obtain ⟨m, rfl⟩ : ∃ k, m = k + 1 := ⟨m - 1, by simp at hm; omega⟩
  unfold zI
  have e : XG done (i : Int) l ord s.1 s.2 = some (Sum.inr (s.1, 0)) := by
   unfold XG WU
   try dsimp (config := {proj := false, iota := false, eta := false}) only
   simp only [List.length_nil, Nat.add_zero] at hi
   rw [hi, zS, cond_false]
  dsimp only
  rw [e]
  rfl
 | cons x r ih =>
  intro i m done s hd hi hm h0 hp hf
  obtain ⟨m, rfl⟩ : ∃ k, m = k + 1 := ⟨m - 1, by simp at hm; omega⟩
  simp only [List.length_cons] at hi hm
  have hil : i < ord.length := by omega
  have h1 := List.drop_eq_getElem_cons hil
  rw [hd] at h1
  have hx : ord.getD i 0 = x := by rw [zS7 0 hil]; exact (List.cons.inj h1).1.symm
  have hr : ord.drop (i + 1) = r := (List.cons.inj h1).2.symm
  unfold zI
  have e : XG done (i : Int) l ord s.1 s.2 = some (cond (okO l done x) (Sum.inl (bOr .u16 done (yl .u16 1 x), ((i + 1 : Nat) : Int), l, ord, (Y6 l s x).1, (Y6 l s x).2)) (Sum.inr ([], 4))) := by
   unfold XG WU
   try dsimp (config := {proj := false, iota := false, eta := false}) only
   rw [zD hil, zg hil, zd, hx, IntWalk.i64_in (((l.length : Nat) : Int) - 1) (by omega), zH (by omega)]
   unfold okO
   cases hin : zK x 0 (((l.length : Nat) : Int) - 1) with
   | false => rfl
   | true =>
    obtain ⟨j, hjl, rfl⟩ := zMm hin
    obtain ⟨h, hh, eh⟩ := Vd (l := l) (p := s.1) (i := j) hf
    have ht : Int.tmod (yz .u16 done (j : Int)) 2 = yz .u16 done (j : Int) % 2 := Int.tmod_eq_emod_of_nonneg (Zz h0).1
    rw [zc7 (by omega), Vu, ht, zg hjl, zd]
    rw [show (zO .u16 (l.getD j (0, 0)).2 done != 0) = !(zO .u16 (l.getD j (0, 0)).2 done == 0) from rfl]
    cases (yz .u16 done (j : Int) % 2 == 1)
    ·cases (zO .u16 (l.getD j (0, 0)).2 done == 0)
     ·rfl
     ·have hjp : j < s.1.length := by omega
      have hd1 := zms (l := l) (p := s.1.set j (zh l s.1 s.2 j)) hjl (by simp; omega)
      simp only [Bool.not_true, cond_false, cond_true, zqQ hj hn hp hjl hf, Option.bind, zg hjp, List.length_set]
      rw [hd1]
      have hg : List.getD (s.1.set j (zh l s.1 s.2 j)) j (0, 0) = zh l s.1 s.2 j := by
       rw [List.getD_eq_getElem?_getD, List.getElem?_set_self hjp]; rfl
      have e1 : inB (zh l s.1 s.2 j).1 s.2.length = true := by rw [eh]; exact zg hh
      simp only [hg, e1, cond_true, yN]
      rfl
    ·rfl
  dsimp only
  rw [e]
  simp only [isO]
  cases hok : okO l done x
  ·rfl
  ·exact ih (i + 1) m _ (Y6 l s x) hr (by omega) (by omega) (zTb _).1 (by rw [zoJ.1]; exact hp) (by rw [zoJ.2]; exact hf)
noncomputable def zEd (h : Int) (l : List Job) (ord : List Int) : List zX × Int :=
 cond (!(yI l)) ([], 1) (cond (!(xS h)) ([], 2) (cond (isO l 0 ord && decide (ord.length = l.length)) ((ord.foldl (Y6 l) (List.replicate l.length (0, 0), List.replicate h.toNat 0)).1, 0) ([], 4)))
theorem zIK {h : Int} {l : List Job} {ord : List Int} (hj : yh l) (hl : l.length ≤ 100000000) (ho : ord.length ≤ 1100000) : zkl l h ord = some (zEd h l ord) := by
 unfold zkl zkv zhM zEd
 try dsimp (config := {proj := false, iota := false, eta := false}) only
 rw [zBp l hl]
 cases hv : yI l with
 | false => rfl
 | true =>
  have hn := (Yg hv).1
  cases hh : xS h with
  | false => rfl
  | true =>
   obtain ⟨n, rfl, h1, h2⟩ := ze8 hh
   rw [zS9]
   rw [zom _ _ (by omega), zAP h2]
   simp only [Option.bind, Bool.not_true, cond_true, cond_false]
   by_cases hlen : ord.length = l.length
   ·rw [decide_eq_true hlen, Bool.and_true]
    have key := zIN hj hn ho ord 0 FU 0 (List.replicate l.length (0, 0), List.replicate n 0) rfl (by omega) (yC (ym (by omega))) (by omega) (by simp) (by simp; omega)
    exact key
   ·rw [decide_eq_false hlen, Bool.and_false]; rfl
section
variable {l : List Job} {h : Int} {p : List zX} (hn : l.length ≤ 12) (hp : p.length = l.length) (hh : ∀ i, i < l.length → ∃ k : Nat, (p.getD i (0, 0)).1 = (k : Int) ∧ k < h.toNat)
include hn hp hh
end
end Go.RR
namespace Go.RR
open Go
open Go.IntKind (wrap)
abbrev SA := Int × Int × Int × Int × Int × Int × Int × Int × Bool × List Job × List zX × List Int
abbrev SB := Int × Int × Int × Int × Int × Int × Int × Int × Bool × List Job × List zX × List Int × List zX
abbrev SC := Int × Int × Int × Int × Int × Int × Int × Int × Bool × List Job × List zX × List Int × List zX × List zX
theorem zV2 {x : Int} : x % 2 = 0 ∨ x % 2 = 1 := by omega
theorem UO {l : List Job} {tk : Int} (h0 : 0 ≤ tk) {i : Nat} {α : Type} (a b : α) : (cond ((vY .u16 (yz .u16 tk (i : Int)) 1) == 1) a (cond ((zO .u16 (l.getD i ((0, 0) : Int × Int)).2 tk) != 0) a b)) = cond (ready l tk i) b a := by
 rw [zS4 (Zz h0).1]
 unfold ready
 rcases zV2 (x := yz .u16 tk (i : Int)) with h | h
 ·rw [h]
  simp only [show ((0 : Int) == 1) = false from rfl, show ((0 : Int) == 0) = true from rfl, cond_false, cond_true]
  by_cases hz : zO .u16 (l.getD i ((0, 0) : Int × Int)).2 tk = 0
  ·rw [hz]; rfl
  ·have e1 : (zO .u16 (l.getD i ((0, 0) : Int × Int)).2 tk != 0) = true := by simpa using hz
   have e2 : (zO .u16 (l.getD i ((0, 0) : Int × Int)).2 tk == 0) = false := by simpa using hz
   rw [e1, e2]; rfl
 ·rw [h]
  rfl
theorem y9 {α : Type} {p : List α} {i : Nat} {x : α} (d : α) (h : i < p.length) : (p.set i x).set i (p.getD i d) = p := by
 rw [List.set_set, List.getD_eq_getElem?_getD, List.getElem?_eq_getElem h]
 exact List.set_getElem_self h
section
variable {l : List Job} {Bd Bg : Int} (hj : yh l) (hn : l.length ≤ 12) (hB : Bg ≤ 20000) {k : Nat} {D : zpg} (hD : zrx l Bd Bg k D)
variable {tk : Int} {plan : List zX} {free : List Int} {day : Int} (hI : zb4 l tk plan free) (hc : xp tk 0 l.length ≤ k)
def emA (l : List Job) (Bd Bg tk : Int) (plan : List zX) (free : List Int) (day : Int) (i : Nat) (st : PS) : SA ⊕ SB := match st.best with
 | none => .inl (day, ((l.length : Nat) : Int), (i : Int), tk, st.len, Bd, st.tr, Bg, false, l, plan, free)
 | some b => .inr (day, ((l.length : Nat) : Int), (i : Int), tk, st.len, Bd, st.tr, Bg, false, l, plan, free, b)
include hj hn hB hD hI hc
theorem zVv {i : Nat} (hi : i < l.length) {st : PS} (hst : ZP l.length Bg st) :
  (∀ st', yy l Bg (go l Bd Bg k) tk plan free day st i = .inl st' → @xF ⟨D⟩ (emA l Bd Bg tk plan free day i st) = some (.inl (emA l Bd Bg tk plan free day (i + 1) st')) ∧ ZP l.length Bg st') ∧
  (∀ r, yy l Bg (go l Bd Bg k) tk plan free day st i = .inr r → ∃ o, @xF ⟨D⟩ (emA l Bd Bg tk plan free day i st) = some (.inr o) ∧ Zf l.length Bd Bg tk plan free r (zSo o)) := by
 have htk := hI.tk.rng
 have hd0 : decide ((i : Int) < 0) = false := decide_eq_false (by omega)
 have hslot := zu7 hj hn hI.plan hi hI.free
 obtain ⟨h, hh1, hh2⟩ := Vd (l := l) (p := plan) (fr := free) (i := i) hI.free
 have hinh : inB (zh l plan free i).1 free.length = true := by rw [hh2]; exact zg hh1
 have hpl : i < plan.length := by rw [hI.plan]; exact hi
 have htr := hst.tr
 cases hb : st.best with
 | none =>
  have hem : emA l Bd Bg tk plan free day i st = .inl (day, ((l.length : Nat) : Int), (i : Int), tk, st.len, Bd, st.tr, Bg, false, l, plan, free) := by unfold emA; rw [hb]
  have hstep : @xF ⟨D⟩ (emA l Bd Bg tk plan free day i st) = @XB ⟨D⟩ day ((l.length : Nat) : Int) (i : Int) tk st.len Bd st.tr Bg false l plan free := by rw [hem]; rfl
  rw [hstep]
  unfold XB XI yy
  try dsimp (config := {proj := false, iota := false, eta := false}) only
  rw [zD hi, zg hi, hd0, zd, cond_true, cond_true, cond_false, UO htk.1, zH (by omega)]
  cases hr : ready l tk i
  ·simp only [cond_false]
   refine ⟨fun st' e => ?_, fun r e => nomatch e⟩
   cases e
   refine ⟨?_, hst⟩
   unfold emA; rw [hb]
  ·simp only [cond_true]
   rw [hslot, hb, IntWalk.i64_in (st.tr + 1) (by omega)]
   simp only [Option.bind, Option.isSome, Bool.false_and, cond_false, hinh, zg hpl, cond_true]
   cases hov : decide (st.tr + 1 > Bg)
   ·simp only [cond_false]
    have hov' := of_decide_eq_false hov
    have hready := xE (l := l) htk.1 (show i < 16 by omega) hr
    have hst1 : ZP l.length Bg ⟨st.tr + 1, st.len, none⟩ := ⟨by show 0 ≤ st.tr + 1 ∧ st.tr + 1 ≤ Bg; omega, fun b e => nomatch e⟩
    have hI1 := hI.step hn hi (zh l plan free i) (zh l plan free i).1.toNat (yk l (zh l plan free i) i)
    have hc1 : xp (tkI tk i) 0 l.length < k := by
     have := xG (xC hI.tk hi hn).2 hready l.length 0 (Nat.zero_le _) (by omega)
     omega
    obtain ⟨r, e1, e2⟩ := hD.a _ _ _ (max day (yk l (zh l plan free i) i)) _ hI1 hst1 hc1 rfl
    have e1 : D.a (max day (xB (l.getD i ((0, 0) : Int × Int)).1 (l.getD i ((0, 0) : Int × Int)).2 (zh l plan free i).1 (zh l plan free i).2)) (bOr .u16 tk (yl .u16 1 (i : Int))) st.len Bd (st.tr + 1) Bg false l (plan.set i ((zh l plan free i).1, (zh l plan free i).2)) (free.set (zh l plan free i).1.toNat (xB (l.getD i ((0, 0) : Int × Int)).1 (l.getD i ((0, 0) : Int × Int)).2 (zh l plan free i).1 (zh l plan free i).2)) = some r := e1
    rw [e1]
    generalize hg : go l Bd Bg k (tkI tk i) (plan.set i (zh l plan free i)) (free.set (zh l plan free i).1.toNat (yk l (zh l plan free i) i)) (max day (yk l (zh l plan free i) i)) ⟨st.tr + 1, st.len, none⟩ = g at e2
    obtain ⟨st2, c⟩ := g
    rcases r with ⟨ret, tk', len', bd', tr', bg', ov', plan', free'⟩ | ⟨ret, tk', len', bd', tr', bg', ov', plan', free', best'⟩
    ·obtain ⟨f1, f2, f3, f4, f5, f6, f7, f8, f9⟩ := e2
     simp only [zSo] at f1 f2 f3 f4 f5 f6 f7 f8
     subst f1 f2 f3 f4 f5 f6
     cases c with
     | zero =>
      obtain ⟨g1, g2, g3⟩ := f8 rfl
      subst g1 g2 g3
      refine ⟨fun st' e => ?_, fun r e => nomatch e⟩
      have e : (Sum.inl st2 : PS ⊕ (PS × Nat)) = .inl st' := e
      cases e
      refine ⟨?_, f9 (by simp)⟩
      simp only [yR, show decide ((0 : Nat) ≠ 0) = false from rfl, cond_false, List.length_set, zg hpl, hinh, cond_true, hd0]
      rw [vi hI.tk hi hn hready, hh2, zd, y9 (0 : Int) hh1]
      rw [show (plan.set i ((zh l plan free i))).set i ((plan.getD i ((0, 0) : Int × Int)).1, (plan.getD i ((0, 0) : Int × Int)).2) = plan from y9 ((0, 0) : Int × Int) hpl]
      unfold emA
      rw [← f7]; rfl
     | succ c =>
      refine ⟨fun st' e => (nomatch e), fun r e => ?_⟩
      have e : (Sum.inr (st2, c + 1) : PS ⊕ (PS × Nat)) = .inr r := e
      cases e
      exact Exists.intro _ (And.intro rfl (Zf.mk rfl rfl rfl rfl rfl rfl f7 (fun h => absurd h (Nat.succ_ne_zero c)) f9))
    ·obtain ⟨f1, f2, f3, f4, f5, f6, f7, f8, f9⟩ := e2
     simp only [zSo] at f1 f2 f3 f4 f5 f6 f7 f8
     subst f1 f2 f3 f4 f5 f6
     cases c with
     | zero =>
      obtain ⟨g1, g2, g3⟩ := f8 rfl
      subst g1 g2 g3
      refine ⟨fun st' e => ?_, fun r e => nomatch e⟩
      have e : (Sum.inl st2 : PS ⊕ (PS × Nat)) = .inl st' := e
      cases e
      refine ⟨?_, f9 (by simp)⟩
      simp only [yR, show decide ((0 : Nat) ≠ 0) = false from rfl, cond_false, List.length_set, zg hpl, hinh, cond_true, hd0]
      rw [vi hI.tk hi hn hready, hh2, zd, y9 (0 : Int) hh1]
      rw [show (plan.set i ((zh l plan free i))).set i ((plan.getD i ((0, 0) : Int × Int)).1, (plan.getD i ((0, 0) : Int × Int)).2) = plan from y9 ((0, 0) : Int × Int) hpl]
      unfold emA
      rw [← f7]; rfl
     | succ c =>
      refine ⟨fun st' e => (nomatch e), fun r e => ?_⟩
      have e : (Sum.inr (st2, c + 1) : PS ⊕ (PS × Nat)) = .inr r := e
      cases e
      exact Exists.intro _ (And.intro rfl (Zf.mk rfl rfl rfl rfl rfl rfl f7 (fun h => absurd h (Nat.succ_ne_zero c)) f9))
   ·simp only [cond_true]
    refine ⟨fun st' e => (nomatch e), fun r e => ?_⟩
    cases e
    exact Exists.intro _ (And.intro rfl (Zf.mk rfl rfl rfl rfl rfl rfl rfl (fun h => absurd h (show ¬ (2 : Nat) = 0 by decide)) (fun h => absurd rfl h)))
 | some b =>
  have hem : emA l Bd Bg tk plan free day i st = .inr (day, ((l.length : Nat) : Int), (i : Int), tk, st.len, Bd, st.tr, Bg, false, l, plan, free, b) := by unfold emA; rw [hb]
  have hstep : @xF ⟨D⟩ (emA l Bd Bg tk plan free day i st) = @YU ⟨D⟩ day ((l.length : Nat) : Int) (i : Int) tk st.len Bd st.tr Bg false l plan free b := by rw [hem]; rfl
  rw [hstep]
  unfold YU YC yy
  try dsimp (config := {proj := false, iota := false, eta := false}) only
  rw [zD hi, zg hi, hd0, zd, cond_true, cond_true, cond_false, UO htk.1, zH (by omega)]
  cases hr : ready l tk i
  ·simp only [cond_false]
   refine ⟨fun st' e => ?_, fun r e => nomatch e⟩
   cases e
   refine ⟨?_, hst⟩
   unfold emA; rw [hb]
  ·simp only [cond_true]
   rw [hslot, hb, IntWalk.i64_in (st.tr + 1) (by omega)]
   have hid : xB (l.getD i ((0, 0) : Int × Int)).1 (l.getD i ((0, 0) : Int × Int)).2 (zh l plan free i).1 (zh l plan free i).2 = yk l (zh l plan free i) i := rfl
   have hbl : Nat.blt 0 b.length = true := Nat.ble_eq_true_of_le (by have := hst.best b hb; omega)
   simp only [Option.bind, Option.isSome, Bool.true_and, hid, hbl, hinh, zg hpl, cond_true]
   cases hpr : decide (yk l (zh l plan free i) i ≥ st.len)
   ·simp only [cond_false]
    cases hov : decide (st.tr + 1 > Bg)
    ·simp only [cond_false]
     have hov' := of_decide_eq_false hov
     have hready := xE (l := l) htk.1 (show i < 16 by omega) hr
     have hst1 : ZP l.length Bg ⟨st.tr + 1, st.len, some b⟩ := ⟨by show 0 ≤ st.tr + 1 ∧ st.tr + 1 ≤ Bg; omega, fun b' e => by cases e; exact hst.best b hb⟩
     have hI1 := hI.step hn hi (zh l plan free i) (zh l plan free i).1.toNat (yk l (zh l plan free i) i)
     have hc1 : xp (tkI tk i) 0 l.length < k := by
      have := xG (xC hI.tk hi hn).2 hready l.length 0 (Nat.zero_le _) (by omega)
      omega
     obtain ⟨r, e1, e2⟩ := hD.b _ _ _ (max day (yk l (zh l plan free i) i)) _ b hI1 hst1 hc1 rfl
     have e1 : D.b (max day (yk l (zh l plan free i) i)) (bOr .u16 tk (yl .u16 1 (i : Int))) st.len Bd (st.tr + 1) Bg false l (plan.set i ((zh l plan free i).1, (zh l plan free i).2)) (free.set (zh l plan free i).1.toNat (yk l (zh l plan free i) i)) b = some r := e1
     rw [e1]
     generalize hg : go l Bd Bg k (tkI tk i) (plan.set i (zh l plan free i)) (free.set (zh l plan free i).1.toNat (yk l (zh l plan free i) i)) (max day (yk l (zh l plan free i) i)) ⟨st.tr + 1, st.len, some b⟩ = g at e2
     obtain ⟨st2, c⟩ := g
     rcases r with ⟨ret, tk', len', bd', tr', bg', ov', plan', free', best'⟩ | ⟨ret, tk', len', bd', tr', bg', ov', plan', free', old', best'⟩
     ·obtain ⟨f1, f2, f3, f4, f5, f6, f7, f8, f9⟩ := e2
      simp only [zsI] at f1 f2 f3 f4 f5 f6 f7 f8
      subst f1 f2 f3 f4 f5 f6
      cases c with
      | zero =>
       obtain ⟨g1, g2, g3⟩ := f8 rfl
       subst g1 g2 g3
       refine ⟨fun st' e => ?_, fun r e => nomatch e⟩
       have e : (Sum.inl st2 : PS ⊕ (PS × Nat)) = .inl st' := e
       cases e
       refine ⟨?_, f9 (by simp)⟩
       simp only [yR, show decide ((0 : Nat) ≠ 0) = false from rfl, cond_false, List.length_set, zg hpl, hinh, cond_true, hd0]
       rw [vi hI.tk hi hn hready, hh2, zd, y9 (0 : Int) hh1]
       rw [show (plan.set i ((zh l plan free i))).set i ((plan.getD i ((0, 0) : Int × Int)).1, (plan.getD i ((0, 0) : Int × Int)).2) = plan from y9 ((0, 0) : Int × Int) hpl]
       unfold emA
       rw [← f7]; rfl
      | succ c =>
       refine ⟨fun st' e => (nomatch e), fun r e => ?_⟩
       have e : (Sum.inr (st2, c + 1) : PS ⊕ (PS × Nat)) = .inr r := e
       cases e
       exact Exists.intro _ (And.intro rfl (Zf.mk rfl rfl rfl rfl rfl rfl f7 (fun h => absurd h (Nat.succ_ne_zero c)) f9))
     ·obtain ⟨f1, f2, f3, f4, f5, f6, f7, f8, f9⟩ := e2
      simp only [zsI] at f1 f2 f3 f4 f5 f6 f7 f8
      subst f1 f2 f3 f4 f5 f6
      cases c with
      | zero =>
       obtain ⟨g1, g2, g3⟩ := f8 rfl
       subst g1 g2 g3
       refine ⟨fun st' e => ?_, fun r e => nomatch e⟩
       have e : (Sum.inl st2 : PS ⊕ (PS × Nat)) = .inl st' := e
       cases e
       refine ⟨?_, f9 (by simp)⟩
       simp only [yR, show decide ((0 : Nat) ≠ 0) = false from rfl, cond_false, List.length_set, zg hpl, hinh, cond_true, hd0]
       rw [vi hI.tk hi hn hready, hh2, zd, y9 (0 : Int) hh1]
       rw [show (plan.set i ((zh l plan free i))).set i ((plan.getD i ((0, 0) : Int × Int)).1, (plan.getD i ((0, 0) : Int × Int)).2) = plan from y9 ((0, 0) : Int × Int) hpl]
       unfold emA
       rw [← f7]; rfl
      | succ c =>
       refine ⟨fun st' e => (nomatch e), fun r e => ?_⟩
       have e : (Sum.inr (st2, c + 1) : PS ⊕ (PS × Nat)) = .inr r := e
       cases e
       exact Exists.intro _ (And.intro rfl (Zf.mk rfl rfl rfl rfl rfl rfl f7 (fun h => absurd h (Nat.succ_ne_zero c)) f9))
    ·simp only [cond_true]
     refine ⟨fun st' e => (nomatch e), fun r e => ?_⟩
     cases e
     exact Exists.intro _ (And.intro rfl (Zf.mk rfl rfl rfl rfl rfl rfl rfl (fun h => absurd h (show ¬ (2 : Nat) = 0 by decide)) (fun h => absurd rfl h)))
   ·simp only [cond_true]
    refine ⟨fun st' e => ?_, fun r e => (nomatch e)⟩
    cases e
    refine ⟨?_, hst⟩
    unfold emA; rw [hb]
end
end Go.RR
namespace Go.RR
open Go
open Go.IntKind (wrap)
section
variable {l : List Job} {Bd Bg : Int} (hj : yh l) (hn : l.length ≤ 12) (hB : Bg ≤ 20000) {k : Nat} {D : zpg} (hD : zrx l Bd Bg k D)
variable {tk : Int} {plan : List zX} {free : List Int} {day : Int} (hI : zb4 l tk plan free) (hc : xp tk 0 l.length ≤ k)
def zUt (l : List Job) (Bd Bg tk : Int) (plan : List zX) (free : List Int) (day : Int) (i : Nat) (st : PS) (s : SB ⊕ SC) : Prop :=
 ∃ b, st.best = some b ∧ (s = .inl (day, ((l.length : Nat) : Int), (i : Int), tk, st.len, Bd, st.tr, Bg, false, l, plan, free, b) ∨ ∃ old, s = .inr (day, ((l.length : Nat) : Int), (i : Int), tk, st.len, Bd, st.tr, Bg, false, l, plan, free, old, b))
include hj hn hB hD hI hc
theorem zUZ {i : Nat} (hi : i < l.length) {st : PS} (hst : ZP l.length Bg st) {s : SB ⊕ SC} (hs : zUt l Bd Bg tk plan free day i st s) :
  (∀ st', yy l Bg (go l Bd Bg k) tk plan free day st i = .inl st' → ∃ s', @xH ⟨D⟩ s = some (.inl s') ∧ zUt l Bd Bg tk plan free day (i + 1) st' s' ∧ ZP l.length Bg st') ∧
  (∀ r, yy l Bg (go l Bd Bg k) tk plan free day st i = .inr r → ∃ o, @xH ⟨D⟩ s = some (.inr o) ∧ Zf l.length Bd Bg tk plan free r (zsI o)) := by
 have htk := hI.tk.rng
 have hd0 : decide ((i : Int) < 0) = false := decide_eq_false (by omega)
 have hslot := zu7 hj hn hI.plan hi hI.free
 obtain ⟨h, hh1, hh2⟩ := Vd (l := l) (p := plan) (fr := free) (i := i) hI.free
 have hinh : inB (zh l plan free i).1 free.length = true := by rw [hh2]; exact zg hh1
 have hpl : i < plan.length := by rw [hI.plan]; exact hi
 have htr := hst.tr
 obtain ⟨b, hb, rfl | ⟨old, rfl⟩⟩ := hs
 ·have hstep : @xH ⟨D⟩ (.inl (day, ((l.length : Nat) : Int), (i : Int), tk, st.len, Bd, st.tr, Bg, false, l, plan, free, b)) = @XO ⟨D⟩ day ((l.length : Nat) : Int) (i : Int) tk st.len Bd st.tr Bg false l plan free b := rfl
  rw [hstep]
  unfold XO Xv yy
  try dsimp (config := {proj := false, iota := false, eta := false}) only
  rw [zD hi, zg hi, hd0, zd, cond_true, cond_true, cond_false, UO htk.1, zH (by omega)]
  cases hr : ready l tk i
  ·simp only [cond_false]
   refine ⟨fun st' e => ?_, fun r e => nomatch e⟩
   cases e
   exact ⟨_, rfl, ⟨b, hb, .inl rfl⟩, hst⟩
  ·simp only [cond_true]
   rw [hslot, hb, IntWalk.i64_in (st.tr + 1) (by omega)]
   have hid : xB (l.getD i ((0, 0) : Int × Int)).1 (l.getD i ((0, 0) : Int × Int)).2 (zh l plan free i).1 (zh l plan free i).2 = yk l (zh l plan free i) i := rfl
   have hbl : Nat.blt 0 b.length = true := Nat.ble_eq_true_of_le (by have := hst.best b hb; omega)
   simp only [Option.bind, Option.isSome, Bool.true_and, hid, hbl, hinh, zg hpl, cond_true]
   cases hpr : decide (yk l (zh l plan free i) i ≥ st.len)
   ·simp only [cond_false]
    cases hov : decide (st.tr + 1 > Bg)
    ·simp only [cond_false]
     have hov' := of_decide_eq_false hov
     have hready := xE (l := l) htk.1 (show i < 16 by omega) hr
     have hst1 : ZP l.length Bg ⟨st.tr + 1, st.len, some b⟩ := ⟨by show 0 ≤ st.tr + 1 ∧ st.tr + 1 ≤ Bg; omega, fun b' e => by cases e; exact hst.best b hb⟩
     have hI1 := hI.step hn hi (zh l plan free i) (zh l plan free i).1.toNat (yk l (zh l plan free i) i)
     have hc1 : xp (tkI tk i) 0 l.length < k := by
      have := xG (xC hI.tk hi hn).2 hready l.length 0 (Nat.zero_le _) (by omega)
      omega
     obtain ⟨r, e1, e2⟩ := hD.b _ _ _ (max day (yk l (zh l plan free i) i)) _ b hI1 hst1 hc1 rfl
     have e1 : D.b (max day (yk l (zh l plan free i) i)) (bOr .u16 tk (yl .u16 1 (i : Int))) st.len Bd (st.tr + 1) Bg false l (plan.set i ((zh l plan free i).1, (zh l plan free i).2)) (free.set (zh l plan free i).1.toNat (yk l (zh l plan free i) i)) b = some r := e1
     rw [e1]
     generalize hg : go l Bd Bg k (tkI tk i) (plan.set i (zh l plan free i)) (free.set (zh l plan free i).1.toNat (yk l (zh l plan free i) i)) (max day (yk l (zh l plan free i) i)) ⟨st.tr + 1, st.len, some b⟩ = g at e2
     obtain ⟨st2, c⟩ := g
     rcases r with ⟨ret, tk', len', bd', tr', bg', ov', plan', free', best'⟩ | ⟨ret, tk', len', bd', tr', bg', ov', plan', free', old', best'⟩
     ·obtain ⟨f1, f2, f3, f4, f5, f6, f7, f8, f9⟩ := e2
      simp only [zsI] at f1 f2 f3 f4 f5 f6 f7 f8
      subst f1 f2 f3 f4 f5 f6
      cases c with
      | zero =>
       obtain ⟨g1, g2, g3⟩ := f8 rfl
       subst g1 g2 g3
       refine ⟨fun st' e => ?_, fun r e => nomatch e⟩
       have e : (Sum.inl st2 : PS ⊕ (PS × Nat)) = .inl st' := e
       cases e
       refine ⟨_, (by
        simp only [yR, show decide ((0 : Nat) ≠ 0) = false from rfl, cond_false, List.length_set, zg hpl, hinh, cond_true, hd0]
        rw [vi hI.tk hi hn hready, hh2, zd, y9 (0 : Int) hh1]), ⟨best', f7.symm, by
        rw [show (plan.set i ((zh l plan free i))).set i ((plan.getD i ((0, 0) : Int × Int)).1, (plan.getD i ((0, 0) : Int × Int)).2) = plan from y9 ((0, 0) : Int × Int) hpl]
        first | exact .inl rfl | exact .inr ⟨_, rfl⟩⟩, f9 (by simp)⟩
      | succ c =>
       refine ⟨fun st' e => (nomatch e), fun r e => ?_⟩
       have e : (Sum.inr (st2, c + 1) : PS ⊕ (PS × Nat)) = .inr r := e
       cases e
       exact Exists.intro _ (And.intro rfl (Zf.mk rfl rfl rfl rfl rfl rfl f7 (fun h => absurd h (Nat.succ_ne_zero c)) f9))
     ·obtain ⟨f1, f2, f3, f4, f5, f6, f7, f8, f9⟩ := e2
      simp only [zsI] at f1 f2 f3 f4 f5 f6 f7 f8
      subst f1 f2 f3 f4 f5 f6
      cases c with
      | zero =>
       obtain ⟨g1, g2, g3⟩ := f8 rfl
       subst g1 g2 g3
       refine ⟨fun st' e => ?_, fun r e => nomatch e⟩
       have e : (Sum.inl st2 : PS ⊕ (PS × Nat)) = .inl st' := e
       cases e
       refine ⟨_, (by
        simp only [yR, show decide ((0 : Nat) ≠ 0) = false from rfl, cond_false, List.length_set, zg hpl, hinh, cond_true, hd0]
        rw [vi hI.tk hi hn hready, hh2, zd, y9 (0 : Int) hh1]), ⟨best', f7.symm, by
        rw [show (plan.set i ((zh l plan free i))).set i ((plan.getD i ((0, 0) : Int × Int)).1, (plan.getD i ((0, 0) : Int × Int)).2) = plan from y9 ((0, 0) : Int × Int) hpl]
        first | exact .inl rfl | exact .inr ⟨_, rfl⟩⟩, f9 (by simp)⟩
      | succ c =>
       refine ⟨fun st' e => (nomatch e), fun r e => ?_⟩
       have e : (Sum.inr (st2, c + 1) : PS ⊕ (PS × Nat)) = .inr r := e
       cases e
       exact Exists.intro _ (And.intro rfl (Zf.mk rfl rfl rfl rfl rfl rfl f7 (fun h => absurd h (Nat.succ_ne_zero c)) f9))
    ·simp only [cond_true]
     refine ⟨fun st' e => (nomatch e), fun r e => ?_⟩
     cases e
     exact Exists.intro _ (And.intro rfl (Zf.mk rfl rfl rfl rfl rfl rfl rfl (fun h => absurd h (show ¬ (2 : Nat) = 0 by decide)) (fun h => absurd rfl h)))
   ·simp only [cond_true]
    refine ⟨fun st' e => ?_, fun r e => (nomatch e)⟩
    cases e
    exact ⟨_, rfl, ⟨b, hb, .inl rfl⟩, hst⟩
 ·have hstep : @xH ⟨D⟩ (.inr (day, ((l.length : Nat) : Int), (i : Int), tk, st.len, Bd, st.tr, Bg, false, l, plan, free, old, b)) = @YN ⟨D⟩ day ((l.length : Nat) : Int) (i : Int) tk st.len Bd st.tr Bg false l plan free old b := rfl
  rw [hstep]
  unfold YN YI yy
  try dsimp (config := {proj := false, iota := false, eta := false}) only
  rw [zD hi, zg hi, hd0, zd, cond_true, cond_true, cond_false, UO htk.1, zH (by omega)]
  cases hr : ready l tk i
  ·simp only [cond_false]
   refine ⟨fun st' e => ?_, fun r e => nomatch e⟩
   cases e
   exact ⟨_, rfl, ⟨b, hb, .inr ⟨_, rfl⟩⟩, hst⟩
  ·simp only [cond_true]
   rw [hslot, hb, IntWalk.i64_in (st.tr + 1) (by omega)]
   have hid : xB (l.getD i ((0, 0) : Int × Int)).1 (l.getD i ((0, 0) : Int × Int)).2 (zh l plan free i).1 (zh l plan free i).2 = yk l (zh l plan free i) i := rfl
   have hbl : Nat.blt 0 b.length = true := Nat.ble_eq_true_of_le (by have := hst.best b hb; omega)
   simp only [Option.bind, Option.isSome, Bool.true_and, hid, hbl, hinh, zg hpl, cond_true]
   cases hpr : decide (yk l (zh l plan free i) i ≥ st.len)
   ·simp only [cond_false]
    cases hov : decide (st.tr + 1 > Bg)
    ·simp only [cond_false]
     have hov' := of_decide_eq_false hov
     have hready := xE (l := l) htk.1 (show i < 16 by omega) hr
     have hst1 : ZP l.length Bg ⟨st.tr + 1, st.len, some b⟩ := ⟨by show 0 ≤ st.tr + 1 ∧ st.tr + 1 ≤ Bg; omega, fun b' e => by cases e; exact hst.best b hb⟩
     have hI1 := hI.step hn hi (zh l plan free i) (zh l plan free i).1.toNat (yk l (zh l plan free i) i)
     have hc1 : xp (tkI tk i) 0 l.length < k := by
      have := xG (xC hI.tk hi hn).2 hready l.length 0 (Nat.zero_le _) (by omega)
      omega
     obtain ⟨r, e1, e2⟩ := hD.b _ _ _ (max day (yk l (zh l plan free i) i)) _ b hI1 hst1 hc1 rfl
     have e1 : D.b (max day (yk l (zh l plan free i) i)) (bOr .u16 tk (yl .u16 1 (i : Int))) st.len Bd (st.tr + 1) Bg false l (plan.set i ((zh l plan free i).1, (zh l plan free i).2)) (free.set (zh l plan free i).1.toNat (yk l (zh l plan free i) i)) b = some r := e1
     rw [e1]
     generalize hg : go l Bd Bg k (tkI tk i) (plan.set i (zh l plan free i)) (free.set (zh l plan free i).1.toNat (yk l (zh l plan free i) i)) (max day (yk l (zh l plan free i) i)) ⟨st.tr + 1, st.len, some b⟩ = g at e2
     obtain ⟨st2, c⟩ := g
     rcases r with ⟨ret, tk', len', bd', tr', bg', ov', plan', free', best'⟩ | ⟨ret, tk', len', bd', tr', bg', ov', plan', free', old', best'⟩
     ·obtain ⟨f1, f2, f3, f4, f5, f6, f7, f8, f9⟩ := e2
      simp only [zsI] at f1 f2 f3 f4 f5 f6 f7 f8
      subst f1 f2 f3 f4 f5 f6
      cases c with
      | zero =>
       obtain ⟨g1, g2, g3⟩ := f8 rfl
       subst g1 g2 g3
       refine ⟨fun st' e => ?_, fun r e => nomatch e⟩
       have e : (Sum.inl st2 : PS ⊕ (PS × Nat)) = .inl st' := e
       cases e
       refine ⟨_, (by
        simp only [yR, show decide ((0 : Nat) ≠ 0) = false from rfl, cond_false, List.length_set, zg hpl, hinh, cond_true, hd0]
        rw [vi hI.tk hi hn hready, hh2, zd, y9 (0 : Int) hh1]), ⟨best', f7.symm, by
        rw [show (plan.set i ((zh l plan free i))).set i ((plan.getD i ((0, 0) : Int × Int)).1, (plan.getD i ((0, 0) : Int × Int)).2) = plan from y9 ((0, 0) : Int × Int) hpl]
        first | exact .inl rfl | exact .inr ⟨_, rfl⟩⟩, f9 (by simp)⟩
      | succ c =>
       refine ⟨fun st' e => (nomatch e), fun r e => ?_⟩
       have e : (Sum.inr (st2, c + 1) : PS ⊕ (PS × Nat)) = .inr r := e
       cases e
       exact Exists.intro _ (And.intro rfl (Zf.mk rfl rfl rfl rfl rfl rfl f7 (fun h => absurd h (Nat.succ_ne_zero c)) f9))
     ·obtain ⟨f1, f2, f3, f4, f5, f6, f7, f8, f9⟩ := e2
      simp only [zsI] at f1 f2 f3 f4 f5 f6 f7 f8
      subst f1 f2 f3 f4 f5 f6
      cases c with
      | zero =>
       obtain ⟨g1, g2, g3⟩ := f8 rfl
       subst g1 g2 g3
       refine ⟨fun st' e => ?_, fun r e => nomatch e⟩
       have e : (Sum.inl st2 : PS ⊕ (PS × Nat)) = .inl st' := e
       cases e
       refine ⟨_, (by
        simp only [yR, show decide ((0 : Nat) ≠ 0) = false from rfl, cond_false, List.length_set, zg hpl, hinh, cond_true, hd0]
        rw [vi hI.tk hi hn hready, hh2, zd, y9 (0 : Int) hh1]), ⟨best', f7.symm, by
        rw [show (plan.set i ((zh l plan free i))).set i ((plan.getD i ((0, 0) : Int × Int)).1, (plan.getD i ((0, 0) : Int × Int)).2) = plan from y9 ((0, 0) : Int × Int) hpl]
        first | exact .inl rfl | exact .inr ⟨_, rfl⟩⟩, f9 (by simp)⟩
      | succ c =>
       refine ⟨fun st' e => (nomatch e), fun r e => ?_⟩
       have e : (Sum.inr (st2, c + 1) : PS ⊕ (PS × Nat)) = .inr r := e
       cases e
       exact Exists.intro _ (And.intro rfl (Zf.mk rfl rfl rfl rfl rfl rfl f7 (fun h => absurd h (Nat.succ_ne_zero c)) f9))
    ·simp only [cond_true]
     refine ⟨fun st' e => (nomatch e), fun r e => ?_⟩
     cases e
     exact Exists.intro _ (And.intro rfl (Zf.mk rfl rfl rfl rfl rfl rfl rfl (fun h => absurd h (show ¬ (2 : Nat) = 0 by decide)) (fun h => absurd rfl h)))
   ·simp only [cond_true]
    refine ⟨fun st' e => ?_, fun r e => (nomatch e)⟩
    cases e
    exact ⟨_, rfl, ⟨b, hb, .inr ⟨_, rfl⟩⟩, hst⟩
end
end Go.RR
namespace Go.RR
open Go
open Go.IntKind (wrap)
theorem Wh {σ ρ : Type} {step : σ → Option (σ ⊕ ρ)} {x y : σ} {m : Nat} (h : step x = some (.inl y)) : zI step (m + 1) x = zI step m y := by
 rw [zI, h]
theorem xZ {σ ρ : Type} {step : σ → Option (σ ⊕ ρ)} {x : σ} {r : ρ} {m : Nat} (h : step x = some (.inr r)) : zI step (m + 1) x = some r := by
 rw [zI, h]
theorem zAr {p : List zX} (h : p.length ≤ 1000) : zg7 p = some p := by
 unfold zg7 zpH
 cases p with
 | nil => rfl
 | cons x p =>
  have h1 : Nat.blt 0 (x :: p).length = true := rfl
  rw [h1, zG (by simp at h ⊢; omega)]
  rfl
def zJl (x : PS ⊕ (PS × Nat)) : PS × Nat := match x with
 | .inl st => (st, 0)
 | .inr r => r
section
variable {l : List Job} {Bd Bg : Int} (hj : yh l) (hn : l.length ≤ 12) (hB : Bg ≤ 20000)
section
variable {k : Nat} {D : zpg} (hD : zrx l Bd Bg k D)
variable {tk : Int} {plan : List zX} {free : List Int} {day : Int} (hI : zb4 l tk plan free) (hc : xp tk 0 l.length ≤ k)
include hj hn hB hD hI hc
theorem zUR : ∀ (cnt i M : Nat) (st : PS), i + cnt = l.length → cnt < M → ZP l.length Bg st →
  ∃ o, zI (@xF ⟨D⟩) M (emA l Bd Bg tk plan free day i st) = some o ∧ Zf l.length Bd Bg tk plan free (zJl (exitL (yy l Bg (go l Bd Bg k) tk plan free day) st (List.range' i cnt))) (zSo o)
 | 0, i, M + 1, st, hi, hm, hst => by
  obtain rfl : i = l.length := hi
  cases hb : st.best with
  | none =>
   have hem : emA l Bd Bg tk plan free day l.length st = .inl (day, ((l.length : Nat) : Int), ((l.length : Nat) : Int), tk, st.len, Bd, st.tr, Bg, false, l, plan, free) := by unfold emA; rw [hb]
   rw [hem]
   have hs : @xF ⟨D⟩ (.inl (day, ((l.length : Nat) : Int), ((l.length : Nat) : Int), tk, st.len, Bd, st.tr, Bg, false, l, plan, free)) = some (.inr (mkX (false, tk, st.len, Bd, st.tr, Bg, false, plan, free))) := by
    show @XB ⟨D⟩ day ((l.length : Nat) : Int) ((l.length : Nat) : Int) tk st.len Bd st.tr Bg false l plan free = _
    unfold XB XI
    try dsimp (config := {proj := false, iota := false, eta := false}) only
    rw [zS, cond_false]
   exact Exists.intro _ (And.intro (xZ hs) (Zf.mk rfl rfl rfl rfl rfl rfl hb.symm (fun _ => ⟨rfl, rfl, rfl⟩) (fun _ => hst)))
  | some b =>
   have hem : emA l Bd Bg tk plan free day l.length st = .inr (day, ((l.length : Nat) : Int), ((l.length : Nat) : Int), tk, st.len, Bd, st.tr, Bg, false, l, plan, free, b) := by unfold emA; rw [hb]
   rw [hem]
   have hs : @xF ⟨D⟩ (.inr (day, ((l.length : Nat) : Int), ((l.length : Nat) : Int), tk, st.len, Bd, st.tr, Bg, false, l, plan, free, b)) = some (.inr (mkY (false, tk, st.len, Bd, st.tr, Bg, false, plan, free, b))) := by
    show @YU ⟨D⟩ day ((l.length : Nat) : Int) ((l.length : Nat) : Int) tk st.len Bd st.tr Bg false l plan free b = _
    unfold YU YC
    try dsimp (config := {proj := false, iota := false, eta := false}) only
    rw [zS, cond_false]
   exact Exists.intro _ (And.intro (xZ hs) (Zf.mk rfl rfl rfl rfl rfl rfl hb.symm (fun _ => ⟨rfl, rfl, rfl⟩) (fun _ => hst)))
 | cnt + 1, i, M + 1, st, hi, hm, hst => by
  obtain ⟨h1, h2⟩ := zVv hj hn hB hD hI hc (show i < l.length by omega) hst
  rw [List.range'_succ]
  unfold exitL
  cases hg : yy l Bg (go l Bd Bg k) tk plan free day st i with
  | inl st' =>
   obtain ⟨e1, e2⟩ := h1 st' hg
   rw [Wh e1]
   exact zUR cnt (i + 1) M st' (by omega) (by omega) e2
  | inr r =>
   obtain ⟨o, e1, e2⟩ := h2 r hg
   exact ⟨o, xZ e1, e2⟩
 | cnt, i, 0, st, hi, hm, hst => by omega
theorem zVm : ∀ (cnt i M : Nat) (st : PS) (s : SB ⊕ SC), i + cnt = l.length → cnt < M → ZP l.length Bg st → zUt l Bd Bg tk plan free day i st s →
  ∃ o, zI (@xH ⟨D⟩) M s = some o ∧ Zf l.length Bd Bg tk plan free (zJl (exitL (yy l Bg (go l Bd Bg k) tk plan free day) st (List.range' i cnt))) (zsI o)
 | 0, i, M + 1, st, s, hi, hm, hst, hs => by
  obtain rfl : i = l.length := hi
  obtain ⟨b, hb, rfl | ⟨old, rfl⟩⟩ := hs
  ·have hs : @xH ⟨D⟩ (.inl (day, ((l.length : Nat) : Int), ((l.length : Nat) : Int), tk, st.len, Bd, st.tr, Bg, false, l, plan, free, b)) = some (.inr (mkX (false, tk, st.len, Bd, st.tr, Bg, false, plan, free, b))) := by
    show @XO ⟨D⟩ day ((l.length : Nat) : Int) ((l.length : Nat) : Int) tk st.len Bd st.tr Bg false l plan free b = _
    unfold XO Xv
    try dsimp (config := {proj := false, iota := false, eta := false}) only
    rw [zS, cond_false]
   exact Exists.intro _ (And.intro (xZ hs) (Zf.mk rfl rfl rfl rfl rfl rfl hb.symm (fun _ => ⟨rfl, rfl, rfl⟩) (fun _ => hst)))
  ·have hs : @xH ⟨D⟩ (.inr (day, ((l.length : Nat) : Int), ((l.length : Nat) : Int), tk, st.len, Bd, st.tr, Bg, false, l, plan, free, old, b)) = some (.inr (mkY (false, tk, st.len, Bd, st.tr, Bg, false, plan, free, old, b))) := by
    show @YN ⟨D⟩ day ((l.length : Nat) : Int) ((l.length : Nat) : Int) tk st.len Bd st.tr Bg false l plan free old b = _
    unfold YN YI
    try dsimp (config := {proj := false, iota := false, eta := false}) only
    rw [zS, cond_false]
   exact Exists.intro _ (And.intro (xZ hs) (Zf.mk rfl rfl rfl rfl rfl rfl hb.symm (fun _ => ⟨rfl, rfl, rfl⟩) (fun _ => hst)))
 | cnt + 1, i, M + 1, st, s, hi, hm, hst, hs => by
  obtain ⟨h1, h2⟩ := zUZ hj hn hB hD hI hc (show i < l.length by omega) hst hs
  rw [List.range'_succ]
  unfold exitL
  cases hg : yy l Bg (go l Bd Bg k) tk plan free day st i with
  | inl st' =>
   obtain ⟨s', e1, e2, e3⟩ := h1 st' hg
   rw [Wh e1]
   exact zVm cnt (i + 1) M st' s' (by omega) (by omega) e3 e2
  | inr r =>
   obtain ⟨o, e1, e2⟩ := h2 r hg
   exact ⟨o, xZ e1, e2⟩
 | cnt, i, 0, st, s, hi, hm, hst, hs => by omega
end
include hj hn hB
theorem zrq : ∀ k, zrx l Bd Bg k (UV k)
 | 0 => ⟨fun _ _ _ _ _ _ _ h => absurd h (Nat.not_lt_zero _), fun _ _ _ _ _ _ _ _ h => absurd h (Nat.not_lt_zero _)⟩
 | k + 1 => by
  have ih := zrq k
  have hfull : wrap .u16 (yl .u16 1 ((l.length : Nat) : Int) - 1) = vZ l.length := rfl
  have hd0 : decide (((l.length : Nat) : Int) < 0) = false := decide_eq_false (by omega)
  have hgo : ∀ tk plan free day st, go l Bd Bg (k + 1) tk plan free day st = cond (tk == vZ l.length) (⟨st.tr, day, some plan⟩, cond (day == Bd) 1 0) (zJl (exitL (yy l Bg (go l Bd Bg k) tk plan free day) st (List.range' 0 l.length))) := fun _ _ _ _ _ => rfl
  refine ⟨fun tk plan free day st hI hst hc hb => ?_, fun tk plan free day st b hI hst hc hb => ?_⟩
  ·show ∃ r, @zbe ⟨UV k⟩ day tk st.len Bd st.tr Bg false l plan free = some r ∧ _
   unfold zbe uk
   try dsimp (config := {proj := false, iota := false, eta := false}) only
   rw [hd0, hfull, hgo, zAr (by rw [hI.plan]; omega)]
   cases hf : tk == vZ l.length
   ·have hr := zUR (day := day) hj hn hB ih hI (by omega) l.length 0 FU st (by omega) (yC (ym (by omega))) hst
    have hem : emA l Bd Bg tk plan free day 0 st = .inl (day, ((l.length : Nat) : Int), 0, tk, st.len, Bd, st.tr, Bg, false, l, plan, free) := by unfold emA; rw [hb]; rfl
    rw [hem] at hr
    exact hr
   ·refine ⟨_, rfl, ?_⟩
    cases hd : day == Bd
    ·exact Zf.mk rfl rfl rfl rfl rfl rfl rfl (fun _ => ⟨rfl, rfl, rfl⟩) (fun _ => ⟨hst.tr, fun b e => by cases e; exact hI.plan⟩)
    ·exact Zf.mk rfl rfl rfl rfl rfl rfl rfl (fun _ => ⟨rfl, rfl, rfl⟩) (fun _ => ⟨hst.tr, fun b e => by cases e; exact hI.plan⟩)
  ·show ∃ r, @zbl ⟨UV k⟩ day tk st.len Bd st.tr Bg false l plan free b = some r ∧ _
   unfold zbl uM
   try dsimp (config := {proj := false, iota := false, eta := false}) only
   rw [hd0, hfull, hgo, zAr (by rw [hI.plan]; omega)]
   cases hf : tk == vZ l.length
   ·exact zVm (day := day) hj hn hB ih hI (by omega) l.length 0 FU st _ (by omega) (yC (ym (by omega))) hst ⟨b, hb, .inl rfl⟩
   ·refine ⟨_, rfl, ?_⟩
    cases hd : day == Bd
    ·exact Zf.mk rfl rfl rfl rfl rfl rfl rfl (fun _ => ⟨rfl, rfl, rfl⟩) (fun _ => ⟨hst.tr, fun b e => by cases e; exact hI.plan⟩)
    ·exact Zf.mk rfl rfl rfl rfl rfl rfl rfl (fun _ => ⟨rfl, rfl, rfl⟩) (fun _ => ⟨hst.tr, fun b e => by cases e; exact hI.plan⟩)
end
end Go.RR
namespace Go.RR
open Go
open Go.IntKind (wrap)
structure zSU where
 ret : Bool
 bd : Int
 bg : Int
 tr : Int
 len : Int
 fd : Bool
 best : Option (List zX)
abbrev TS1 := Bool × Int × Int × Int × Int × Bool × List zX × List Int
abbrev TS2 := Bool × Int × Int × Int × Int × Bool × List zX × List Int × List zX
abbrev TT1 := Bool × Int × Int × Int × Int × Bool × List zX × List zX × List Int
abbrev TT2 := Bool × Int × Int × Int × Int × Bool × List zX × List zX × List Int × List zX
def Ws : TS1 ⊕ TS2 → zSU
 | .inl r => ⟨r.1, r.2.1, r.2.2.1, r.2.2.2.1, r.2.2.2.2.1, r.2.2.2.2.2.1, none⟩
 | .inr r => ⟨r.1, r.2.1, r.2.2.1, r.2.2.2.1, r.2.2.2.2.1, r.2.2.2.2.2.1, some r.2.2.2.2.2.2.2.2⟩
def VS : TT1 ⊕ TT2 → zSU
 | .inl r => ⟨r.1, r.2.1, r.2.2.1, r.2.2.2.1, r.2.2.2.2.1, r.2.2.2.2.2.1, some r.2.2.2.2.2.2.1⟩
 | .inr r => ⟨r.1, r.2.1, r.2.2.1, r.2.2.2.1, r.2.2.2.2.1, r.2.2.2.2.2.1, some r.2.2.2.2.2.2.2.2.2⟩
def AB (Bd : Int) (st : PS) : Prop := st.best.isSome = true ∧ st.len = Bd
structure IsS (n : Nat) (Bd Bg : Int) (r : PS × Nat) (o : zSU) : Prop where
 le : r.2 ≤ 2
 ret : o.ret = decide (r.2 ≠ 2)
 eq : r.2 ≠ 2 → o.bd = Bd ∧ o.bg = Bg ∧ o.tr = r.1.tr ∧ o.len = r.1.len ∧ o.fd = r.1.best.isSome ∧ o.best = r.1.best ∧ ZP n Bg r.1
 nb : r.2 = 0 → ¬ AB Bd r.1
 ab : r.2 = 1 → AB Bd r.1
def ze6 (l : List Job) (tk : Int) (plan : List zX) (day : Int) : Prop := day = Yu (tb tk) (yN l plan) (List.range' 0 l.length) 0
abbrev tkn (l : List Job) (tk : Int) : Int := ((l.length - xp tk 0 l.length : Nat) : Int)
structure zSO (l : List Job) (Bd Bg : Int) (k : Nat) (D : zmI) : Prop where
 a : ∀ tk plan free day st, zb4 l tk plan free → ZP l.length Bg st → ¬ AB Bd st → ze6 l tk plan day → xp tk 0 l.length < k → st.best = none →
  ∃ r, D.a tk (tkn l tk) Bd Bg st.tr st.len false l plan free = some r ∧ IsS l.length Bd Bg (go l Bd Bg k tk plan free day st) (Ws r)
 b : ∀ tk plan free day st b, zb4 l tk plan free → ZP l.length Bg st → ¬ AB Bd st → ze6 l tk plan day → xp tk 0 l.length < k → st.best = some b →
  ∃ r, D.b tk (tkn l tk) Bd Bg st.tr st.len true l b plan free = some r ∧ IsS l.length Bd Bg (go l Bd Bg k tk plan free day st) (VS r)
theorem Xy {l : List Job} {tk : Int} (h0 : 0 ≤ tk) {i : Nat} (hi : i < l.length) {α : Type} (a b : Option α) : (cond ((Int.tmod (yz .u16 tk (i : Int)) 2) == 1) a (cond (inB (i : Int) l.length) (cond ((zO .u16 (l.getD i ((0, 0) : Int × Int)).2 tk) != 0) a b) none)) = cond (ready l tk i) b a := by
 rw [Int.tmod_eq_emod_of_nonneg (Zz h0).1, zg hi, cond_true]
 have := UO (l := l) h0 (i := i) a b
 rw [zS4 (Zz h0).1] at this
 exact this
theorem V0 {l : List Job} (hn : l.length ≤ 12) {tk : Int} {plan : List zX} {day : Int} (h : ze6 l tk plan day) (ht : zbZ l.length tk) (hp : plan.length = l.length) {i : Nat} (hi : i < l.length) (hb : tb tk i = false) (sl : zX) : ze6 l (tkI tk i) (plan.set i sl) (max day (yk l sl i)) := by
 unfold ze6 at h ⊢
 have hf : ∀ k, k ≠ i → yN l (plan.set i sl) k = yN l plan k := by
  intro k hk
  unfold yN
  rw [List.getD_eq_getElem?_getD, List.getElem?_set_ne (fun e => hk e.symm), ← List.getD_eq_getElem?_getD]
 have he : yN l (plan.set i sl) i = yk l sl i := by
  unfold yN yk
  rw [List.getD_eq_getElem?_getD, List.getElem?_set_self (by omega)]
  rfl
 rw [zL1 (xC ht hi hn).2 hb hf (ks := List.range' 0 l.length) (by rw [List.mem_range'_1]; omega) 0, he, ← h]
section
variable {l : List Job} {Bd Bg : Int} (hj : yh l) (hn : l.length ≤ 12) (hB : Bg ≤ 20000) {k : Nat} {D : zmI} (hD : zSO l Bd Bg k D)
variable {tk : Int} {plan : List zX} {free : List Int} {day : Int} (hI : zb4 l tk plan free) (hc : xp tk 0 l.length ≤ k) (hday : ze6 l tk plan day)
abbrev GA := Int × Int × Int × Int × Int × Int × Int × Bool × List Job × List zX × List Int
abbrev GB := Int × Int × Int × Int × Int × Int × Int × Bool × List Job × List zX × List Int × List zX
def emS (l : List Job) (Bd Bg tk : Int) (plan : List zX) (free : List Int) (i : Nat) (st : PS) : GA ⊕ GB := match st.best with
 | none => .inl (tk, tkn l tk, (i : Int), Bd, Bg, st.tr, st.len, false, l, plan, free)
 | some b => .inr (tk, tkn l tk, (i : Int), Bd, Bg, st.tr, st.len, true, l, plan, free, b)
include hj hn hB hD hI hc hday
theorem zVz {i : Nat} (hi : i < l.length) {st : PS} (hst : ZP l.length Bg st) (hab : ¬ AB Bd st) :
  (∀ st', yy l Bg (go l Bd Bg k) tk plan free day st i = .inl st' → @y0 ⟨D⟩ (emS l Bd Bg tk plan free i st) = some (.inl (emS l Bd Bg tk plan free (i + 1) st')) ∧ ZP l.length Bg st' ∧ ¬ AB Bd st') ∧
  (∀ st', yy l Bg (go l Bd Bg k) tk plan free day st i = .inr (st', 1) → @y0 ⟨D⟩ (emS l Bd Bg tk plan free i st) = some (.inl (emS l Bd Bg tk plan free (i + 1) st')) ∧ ZP l.length Bg st' ∧ AB Bd st') ∧
  (∀ st' c, yy l Bg (go l Bd Bg k) tk plan free day st i = .inr (st', c) → c ≠ 1 → c = 2 ∧ ∃ o, @y0 ⟨D⟩ (emS l Bd Bg tk plan free i st) = some (.inr o) ∧ (Ws o).ret = false) := by
 have htk := hI.tk.rng
 have hput := zqQ hj hn hI.plan hi hI.free
 obtain ⟨h, hh1, hh2⟩ := Vd (l := l) (p := plan) (fr := free) (i := i) hI.free
 have hinh : inB (zh l plan free i).1 free.length = true := by rw [hh2]; exact zg hh1
 have hpl : i < plan.length := by rw [hI.plan]; exact hi
 have hpl2 := hI.plan
 have hfr := hI.free
 have htr := hst.tr
 have hov : decide (st.tr + 1 > Bg) = (st.tr == Bg) := by
  apply Bool.eq_iff_iff.2
  rw [decide_eq_true_eq, beq_iff_eq]
  omega
 have hcl := zrN tk l.length 0
 cases hb : st.best with
 | none =>
  have hem : emS l Bd Bg tk plan free i st = .inl (tk, tkn l tk, (i : Int), Bd, Bg, st.tr, st.len, false, l, plan, free) := by unfold emS; rw [hb]
  have hstep : @y0 ⟨D⟩ (emS l Bd Bg tk plan free i st) = @XS ⟨D⟩ tk (tkn l tk) (i : Int) Bd Bg st.tr st.len false l plan free := by rw [hem]; rfl
  rw [hstep]
  unfold XS XE yy
  try dsimp (config := {proj := false, iota := false, eta := false}) only
  rw [zD hi, zc7 (by omega), Vu, zd, cond_true, cond_false, Xy htk.1 hi, zH (by omega)]
  cases hr : ready l tk i
  ·simp only [cond_false]
   refine ⟨fun st' e => ?_, fun st' e => (nomatch e), fun st' c e => (nomatch e)⟩
   cases e
   refine ⟨?_, hst, hab⟩
   unfold emS; rw [hb]
  ·simp only [cond_true, cond_false]
   rw [hput, hb, hov]
   simp only [Option.bind, Option.isSome, Bool.false_and, zg hi, cond_true, cond_false, List.nil_append]
   cases hq : st.tr == Bg
   ·have hready := xE (l := l) htk.1 (show i < 16 by omega) hr
    rw [zG (show (([] : List (Int × Int)).length + plan.length) * 4 ≤ 140737488355328 by simp; omega), zG (show (([] : List Int).length + free.length) * 8 ≤ 140737488355328 by simp; omega), zg hpl, hinh, IntWalk.i64_in (st.tr + 1) (by omega)]
    simp only [cond_true, cond_false]
    have hov' : ¬ st.tr + 1 > Bg := of_decide_eq_false (hov.trans hq)
    have hst1 : ZP l.length Bg ⟨st.tr + 1, st.len, none⟩ := ⟨by show 0 ≤ st.tr + 1 ∧ st.tr + 1 ≤ Bg; omega, fun b e => nomatch e⟩
    have hab1 : ¬ AB Bd ⟨st.tr + 1, st.len, none⟩ := fun e => by cases e.1
    have hI1 := hI.step hn hi (zh l plan free i) (zh l plan free i).1.toNat (yk l (zh l plan free i) i)
    have hcs := xG (xC hI.tk hi hn).2 hready l.length 0 (Nat.zero_le _) (by omega)
    have hc1 : xp (tkI tk i) 0 l.length < k := by omega
    have hd1 := V0 hn hday hI.tk hI.plan hi hready (zh l plan free i)
    have htn : wrap .i64 (tkn l tk + 1) = tkn l (tkI tk i) := by
     unfold tkn
     rw [zH (by omega)]
     congr 1
     omega
    obtain ⟨r, e1, e2⟩ := hD.a _ _ _ (max day (yk l (zh l plan free i) i)) _ hI1 hst1 hab1 hd1 hc1 rfl
    rw [htn]
    have e1 : D.a (bOr .u16 tk (yl .u16 1 (i : Int))) (tkn l (tkI tk i)) Bd Bg (st.tr + 1) st.len false l (plan.set i ((zh l plan free i).1, (zh l plan free i).2)) (free.set (zh l plan free i).1.toNat (wrap .i64 (wrap .i64 (zh l plan free i).2 + wrap .i64 (l.getD i ((0, 0) : Int × Int)).1))) = some r := e1
    rw [e1]
    generalize hg : go l Bd Bg k (tkI tk i) (plan.set i (zh l plan free i)) (free.set (zh l plan free i).1.toNat (yk l (zh l plan free i) i)) (max day (yk l (zh l plan free i) i)) ⟨st.tr + 1, st.len, none⟩ = g at e2
    obtain ⟨st2, c⟩ := g
    rcases r with ⟨ret, bd', bg', tr', len', fd', plan', free'⟩ | ⟨ret, bd', bg', tr', len', fd', plan', free', best'⟩
    ·obtain ⟨f1, f2, f3, f4, f5⟩ := e2
     simp only [Ws] at f1 f2 f3 f4 f5
     match c, f1 with
     | 0, _ =>
      obtain ⟨g1, g2, g3, g4, g5, g6, g7⟩ := f3 (by decide)
      subst g1 g2 g3 g4 g5 f2
      refine ⟨fun st' e => ?_, fun st' e => (nomatch e), fun st' c e => (nomatch e)⟩
      have e : (Sum.inl st2 : PS ⊕ (PS × Nat)) = .inl st' := e
      cases e
      refine ⟨?_, g7, f4 rfl⟩
      unfold emS
      rw [← g6]; rfl
     | 1, _ =>
      obtain ⟨g1, g2, g3, g4, g5, g6, g7⟩ := f3 (by decide)
      subst g1 g2 g3 g4 g5 f2
      refine ⟨fun st' e => (nomatch e), fun st' e => ?_, fun st' c e hc => ?_⟩
      ·have e : (Sum.inr (st2, 1) : PS ⊕ (PS × Nat)) = .inr (st', 1) := e
       cases e
       refine ⟨?_, g7, f5 rfl⟩
       unfold emS
       rw [← g6]; rfl
      ·have e : (Sum.inr (st2, 1) : PS ⊕ (PS × Nat)) = .inr (st', c) := e
       cases e
       exact absurd rfl hc
     | 2, _ =>
      subst f2
      refine ⟨fun st' e => (nomatch e), fun st' e => ?_, fun st' c e hc => ?_⟩
      ·have e : (Sum.inr (st2, 2) : PS ⊕ (PS × Nat)) = .inr (st', 1) := e
       cases e
      ·have e : (Sum.inr (st2, 2) : PS ⊕ (PS × Nat)) = .inr (st', c) := e
       cases e
       exact ⟨rfl, _, rfl, rfl⟩
     | c + 3, hc3 => exact absurd hc3 (by omega)
    ·obtain ⟨f1, f2, f3, f4, f5⟩ := e2
     simp only [Ws] at f1 f2 f3 f4 f5
     match c, f1 with
     | 0, _ =>
      obtain ⟨g1, g2, g3, g4, g5, g6, g7⟩ := f3 (by decide)
      subst g1 g2 g3 g4 g5 f2
      refine ⟨fun st' e => ?_, fun st' e => (nomatch e), fun st' c e => (nomatch e)⟩
      have e : (Sum.inl st2 : PS ⊕ (PS × Nat)) = .inl st' := e
      cases e
      refine ⟨?_, g7, f4 rfl⟩
      unfold emS
      rw [← g6]; rfl
     | 1, _ =>
      obtain ⟨g1, g2, g3, g4, g5, g6, g7⟩ := f3 (by decide)
      subst g1 g2 g3 g4 g5 f2
      refine ⟨fun st' e => (nomatch e), fun st' e => ?_, fun st' c e hc => ?_⟩
      ·have e : (Sum.inr (st2, 1) : PS ⊕ (PS × Nat)) = .inr (st', 1) := e
       cases e
       refine ⟨?_, g7, f5 rfl⟩
       unfold emS
       rw [← g6]; rfl
      ·have e : (Sum.inr (st2, 1) : PS ⊕ (PS × Nat)) = .inr (st', c) := e
       cases e
       exact absurd rfl hc
     | 2, _ =>
      subst f2
      refine ⟨fun st' e => (nomatch e), fun st' e => ?_, fun st' c e hc => ?_⟩
      ·have e : (Sum.inr (st2, 2) : PS ⊕ (PS × Nat)) = .inr (st', 1) := e
       cases e
      ·have e : (Sum.inr (st2, 2) : PS ⊕ (PS × Nat)) = .inr (st', c) := e
       cases e
       exact ⟨rfl, _, rfl, rfl⟩
     | c + 3, hc3 => exact absurd hc3 (by omega)
   ·refine ⟨fun st' e => (nomatch e), fun st' e => (nomatch e), fun st' c e hc => ?_⟩
    cases e
    exact ⟨rfl, _, rfl, rfl⟩
 | some b =>
  have hem : emS l Bd Bg tk plan free i st = .inr (tk, tkn l tk, (i : Int), Bd, Bg, st.tr, st.len, true, l, plan, free, b) := by unfold emS; rw [hb]
  have hstep : @y0 ⟨D⟩ (emS l Bd Bg tk plan free i st) = @Zm ⟨D⟩ tk (tkn l tk) (i : Int) Bd Bg st.tr st.len true l plan free b := by rw [hem]; rfl
  rw [hstep]
  unfold Zm ZU yy
  try dsimp (config := {proj := false, iota := false, eta := false}) only
  rw [zD hi, zc7 (by omega), Vu, zd, cond_true, cond_false, Xy htk.1 hi, zH (by omega)]
  cases hr : ready l tk i
  ·simp only [cond_false]
   refine ⟨fun st' e => ?_, fun st' e => (nomatch e), fun st' c e => (nomatch e)⟩
   cases e
   refine ⟨?_, hst, hab⟩
   unfold emS; rw [hb]
  ·simp only [cond_true, cond_false]
   have hlb : (st.len == Bd) = false := by
    apply Bool.eq_false_iff.2
    intro e
    exact hab ⟨by rw [hb]; rfl, beq_iff_eq.1 e⟩
   have hid : wrap .i64 (wrap .i64 (zh l plan free i).2 + wrap .i64 (l.getD i ((0, 0) : Int × Int)).1) = yk l (zh l plan free i) i := rfl
   rw [hlb, cond_false, hput, hb, hov]
   simp only [Option.bind, Option.isSome, Bool.true_and, zg hi, cond_true, cond_false, List.nil_append, hid]
   cases hpr : decide (yk l (zh l plan free i) i ≥ st.len)
   ·simp only [cond_false]
    cases hq : st.tr == Bg
    ·have hready := xE (l := l) htk.1 (show i < 16 by omega) hr
     rw [zG (show (([] : List (Int × Int)).length + plan.length) * 4 ≤ 140737488355328 by simp; omega), zG (show (([] : List Int).length + free.length) * 8 ≤ 140737488355328 by simp; omega), zg hpl, hinh, IntWalk.i64_in (st.tr + 1) (by omega)]
     simp only [cond_true, cond_false]
     have hov' : ¬ st.tr + 1 > Bg := of_decide_eq_false (hov.trans hq)
     have hst1 : ZP l.length Bg ⟨st.tr + 1, st.len, some b⟩ := ⟨by show 0 ≤ st.tr + 1 ∧ st.tr + 1 ≤ Bg; omega, fun b' e => by cases e; exact hst.best b hb⟩
     have hab1 : ¬ AB Bd ⟨st.tr + 1, st.len, some b⟩ := fun e => hab ⟨by rw [hb]; rfl, e.2⟩
     have hI1 := hI.step hn hi (zh l plan free i) (zh l plan free i).1.toNat (yk l (zh l plan free i) i)
     have hcs := xG (xC hI.tk hi hn).2 hready l.length 0 (Nat.zero_le _) (by omega)
     have hc1 : xp (tkI tk i) 0 l.length < k := by omega
     have hd1 := V0 hn hday hI.tk hI.plan hi hready (zh l plan free i)
     have htn : wrap .i64 (tkn l tk + 1) = tkn l (tkI tk i) := by
      unfold tkn
      rw [zH (by omega)]
      congr 1
      omega
     obtain ⟨r, e1, e2⟩ := hD.b _ _ _ (max day (yk l (zh l plan free i) i)) _ b hI1 hst1 hab1 hd1 hc1 rfl
     rw [htn]
     have e1 : D.b (bOr .u16 tk (yl .u16 1 (i : Int))) (tkn l (tkI tk i)) Bd Bg (st.tr + 1) st.len true l b (plan.set i ((zh l plan free i).1, (zh l plan free i).2)) (free.set (zh l plan free i).1.toNat (yk l (zh l plan free i) i)) = some r := e1
     rw [e1]
     generalize hg : go l Bd Bg k (tkI tk i) (plan.set i (zh l plan free i)) (free.set (zh l plan free i).1.toNat (yk l (zh l plan free i) i)) (max day (yk l (zh l plan free i) i)) ⟨st.tr + 1, st.len, some b⟩ = g at e2
     obtain ⟨st2, c⟩ := g
     rcases r with ⟨ret, bd', bg', tr', len', fd', best', plan', free'⟩ | ⟨ret, bd', bg', tr', len', fd', old', plan', free', best'⟩
     ·obtain ⟨f1, f2, f3, f4, f5⟩ := e2
      simp only [VS] at f1 f2 f3 f4 f5
      match c, f1 with
      | 0, _ =>
       obtain ⟨g1, g2, g3, g4, g5, g6, g7⟩ := f3 (by decide)
       subst g1 g2 g3 g4 g5 f2
       refine ⟨fun st' e => ?_, fun st' e => (nomatch e), fun st' c e => (nomatch e)⟩
       have e : (Sum.inl st2 : PS ⊕ (PS × Nat)) = .inl st' := e
       cases e
       refine ⟨?_, g7, f4 rfl⟩
       unfold emS
       rw [← g6]; rfl
      | 1, _ =>
       obtain ⟨g1, g2, g3, g4, g5, g6, g7⟩ := f3 (by decide)
       subst g1 g2 g3 g4 g5 f2
       refine ⟨fun st' e => (nomatch e), fun st' e => ?_, fun st' c e hc => ?_⟩
       ·have e : (Sum.inr (st2, 1) : PS ⊕ (PS × Nat)) = .inr (st', 1) := e
        cases e
        refine ⟨?_, g7, f5 rfl⟩
        unfold emS
        rw [← g6]; rfl
       ·have e : (Sum.inr (st2, 1) : PS ⊕ (PS × Nat)) = .inr (st', c) := e
        cases e
        exact absurd rfl hc
      | 2, _ =>
       subst f2
       refine ⟨fun st' e => (nomatch e), fun st' e => ?_, fun st' c e hc => ?_⟩
       ·have e : (Sum.inr (st2, 2) : PS ⊕ (PS × Nat)) = .inr (st', 1) := e
        cases e
       ·have e : (Sum.inr (st2, 2) : PS ⊕ (PS × Nat)) = .inr (st', c) := e
        cases e
        exact ⟨rfl, _, rfl, rfl⟩
      | c + 3, hc3 => exact absurd hc3 (by omega)
     ·obtain ⟨f1, f2, f3, f4, f5⟩ := e2
      simp only [VS] at f1 f2 f3 f4 f5
      match c, f1 with
      | 0, _ =>
       obtain ⟨g1, g2, g3, g4, g5, g6, g7⟩ := f3 (by decide)
       subst g1 g2 g3 g4 g5 f2
       refine ⟨fun st' e => ?_, fun st' e => (nomatch e), fun st' c e => (nomatch e)⟩
       have e : (Sum.inl st2 : PS ⊕ (PS × Nat)) = .inl st' := e
       cases e
       refine ⟨?_, g7, f4 rfl⟩
       unfold emS
       rw [← g6]; rfl
      | 1, _ =>
       obtain ⟨g1, g2, g3, g4, g5, g6, g7⟩ := f3 (by decide)
       subst g1 g2 g3 g4 g5 f2
       refine ⟨fun st' e => (nomatch e), fun st' e => ?_, fun st' c e hc => ?_⟩
       ·have e : (Sum.inr (st2, 1) : PS ⊕ (PS × Nat)) = .inr (st', 1) := e
        cases e
        refine ⟨?_, g7, f5 rfl⟩
        unfold emS
        rw [← g6]; rfl
       ·have e : (Sum.inr (st2, 1) : PS ⊕ (PS × Nat)) = .inr (st', c) := e
        cases e
        exact absurd rfl hc
      | 2, _ =>
       subst f2
       refine ⟨fun st' e => (nomatch e), fun st' e => ?_, fun st' c e hc => ?_⟩
       ·have e : (Sum.inr (st2, 2) : PS ⊕ (PS × Nat)) = .inr (st', 1) := e
        cases e
       ·have e : (Sum.inr (st2, 2) : PS ⊕ (PS × Nat)) = .inr (st', c) := e
        cases e
        exact ⟨rfl, _, rfl, rfl⟩
      | c + 3, hc3 => exact absurd hc3 (by omega)
    ·refine ⟨fun st' e => (nomatch e), fun st' e => (nomatch e), fun st' c e hc => ?_⟩
     cases e
     exact ⟨rfl, _, rfl, rfl⟩
   ·simp only [cond_true]
    refine ⟨fun st' e => ?_, fun st' e => (nomatch e), fun st' c e => (nomatch e)⟩
    cases e
    refine ⟨?_, hst, hab⟩
    unfold emS; rw [hb]
end
theorem zUI {l : List Job} {Bd Bg : Int} {D : zmI} {tk : Int} {plan : List zX} {free : List Int} {i : Nat} (hi : i < l.length) (hn : l.length ≤ 12) (htk : 0 ≤ tk) {st : PS} (hab : AB Bd st) : @y0 ⟨D⟩ (emS l Bd Bg tk plan free i st) = some (.inl (emS l Bd Bg tk plan free (i + 1) st)) := by
 cases hb : st.best with
 | none => rw [AB, hb] at hab; cases hab.1
 | some b =>
  have hem : ∀ i : Nat, emS l Bd Bg tk plan free i st = .inr (tk, tkn l tk, (i : Int), Bd, Bg, st.tr, st.len, true, l, plan, free, b) := fun i => by unfold emS; rw [hb]
  rw [hem, hem]
  show @Zm ⟨D⟩ tk (tkn l tk) (i : Int) Bd Bg st.tr st.len true l plan free b = _
  unfold Zm ZU
  try dsimp (config := {proj := false, iota := false, eta := false}) only
  rw [zD hi, zc7 (by omega), Vu, zd, cond_true, cond_false, Xy htk hi, zH (by omega), beq_iff_eq.2 hab.2]
  cases ready l tk i <;> rfl
end Go.RR
namespace Go.RR
open Go
open Go.IntKind (wrap)
theorem zlk {l : List Job} (hv : VJ l) {tk : Int} (ht : zbZ l.length tk) {i : Nat} (hi : i < l.length) (hr : ready l tk i = true) : tb tk i = false ∧ ∀ k, k < l.length → ya l i k = true → tb tk k = true := by
 have hn := hv.len
 refine ⟨xE ht.rng.1 (by omega) hr, fun k hk hw => ?_⟩
 unfold ready at hr
 have hab : zO .u16 (l.getD i (0, 0)).2 tk = 0 := by
  cases hb : (yz .u16 tk i % 2 == 0)
  ·rw [hb] at hr; cases hr
  ·rw [hb] at hr
   simpa using hr
 rw [zgq hv.ok hi (by omega)] at hw
 exact zkR (hv.ok _ (zR hi)).2 ht.rng hab hw
theorem zpd {l : List Job} {tk : Int} (h0 : 0 ≤ tk) {x : Int} (h : okO l tk x = true) : ∃ j : Nat, j < l.length ∧ x = (j : Int) ∧ ready l tk j = true := by
 unfold okO at h
 obtain ⟨h1, h2⟩ := Bool.and_eq_true_iff.1 h
 obtain ⟨h2, h3⟩ := Bool.and_eq_true_iff.1 h2
 obtain ⟨j, hj, rfl⟩ := zMm h1
 refine ⟨j, hj, rfl, ?_⟩
 rw [zd] at h3
 unfold ready
 rw [h3]
 have h4 := (Zz (y := (j : Int)) h0).1
 have : (yz .u16 tk (j : Int) % 2 == 0) = true := by
  rw [Bool.not_eq_true'] at h2
  have := beq_eq_false_iff_ne.1 h2
  exact beq_iff_eq.2 (by omega)
 rw [this]; rfl
theorem zb3.fold {l : List Job} {H : Nat} (hv : VJ l) (hH : 1 ≤ H ∧ H ≤ 4) : ∀ (r : List Int) (tk : Int) (p : List zX) (fr : List Int), zb3 l H tk p fr → isO l tk r = true → r.length = xp tk 0 l.length →
  Ui l H (r.foldl (Y6 l) (p, fr)).1 ∧ ∀ k, k < l.length → tb tk k = true → en l (r.foldl (Y6 l) (p, fr)).1 k = en l p k
 | [], tk, p, fr, h, _, hc => ⟨⟨tk, fr, h, fun i hi => (ZY l.length 0).1 hc.symm i (Nat.zero_le _) (by omega)⟩, fun _ _ _ => rfl⟩
 | x :: r, tk, p, fr, h, ho, hc => by
  unfold isO at ho
  cases hx : okO l tk x with
  | false => rw [hx] at ho; cases ho
  | true =>
   rw [hx, cond_true] at ho
   obtain ⟨j, hj, rfl, hr⟩ := zpd h.tok.rng.1 hx
   obtain ⟨hb, hw⟩ := zlk hv h.tok hj hr
   obtain ⟨s1, s2, s3⟩ := h.step hv hH hj hb hw
   have hcn := xG (xC h.tok hj hv.len).2 hb l.length 0 (Nat.zero_le _) (by omega)
   have hlen : (((j : Nat) : Int) :: r).length = r.length + 1 := rfl
   obtain ⟨a, b⟩ := zb3.fold hv hH r (tkI tk j) _ _ s1 ho (by omega)
   rw [List.foldl_cons]
   have e : Y6 l (p, fr) (j : Int) = (p.set j (zh l p fr j), fr.set (zh l p fr j).1.toNat (yk l (zh l p fr j) j)) := by
    unfold Y6
    rw [zd]
    rfl
   rw [e]
   refine ⟨a, fun k hk hbk => ?_⟩
   have hne : k ≠ j := fun e => by rw [e, hb] at hbk; cases hbk
   rw [b k hk (by rw [(xC h.tok hj hv.len).2, hbk, Bool.true_or]), s2 k hne]
theorem zv0 {l : List Job} {p : List zX} {fr : List Int} {j : Nat} : Y6 l (p, fr) (j : Int) = (p.set j (zh l p fr j), fr.set (zh l p fr j).1.toNat (yk l (zh l p fr j) j)) := by
 unfold Y6
 rw [zd]
 rfl
theorem zD3 {p : Nat → Bool} {f : Nat → Int} {L : Int} : ∀ (ks : List Nat) (m : Int), m ≤ L → (∀ k ∈ ks, p k = true → f k ≤ L) → Yu p f ks m ≤ L
 | [], m, hm, _ => hm
 | k :: ks, m, hm, h => by
  show Yu p f ks (cond (p k) (max m (f k)) m) ≤ L
  refine zD3 ks _ ?_ fun k' hk' => h k' (by simp [hk'])
  cases hp : p k
  ·exact hm
  ·have := h k (by simp) hp
   simp only [cond_true]; omega
theorem zLZ {l : List Job} {H : Nat} (hv : VJ l) (hH : 1 ≤ H ∧ H ≤ 4) {r : List Int} {tk : Int} {p : List zX} {fr : List Int} {day : Int} (h : zb3 l H tk p fr) (hd : ze6 l tk p day) (ho : isO l tk r = true) (hc : r.length = xp tk 0 l.length) : day ≤ Xs l (r.foldl (Y6 l) (p, fr)).1 := by
 obtain ⟨a, b⟩ := h.fold hv hH r tk p fr ho hc
 rw [hd]
 refine zD3 _ _ (VM hv a).1 fun k hk hb => ?_
 have hk : k < l.length := by rw [List.mem_range'_1] at hk; omega
 rw [zbq hv hk (h.st_le hv hk hb), ← b k hk hb]
 exact (zkW hv a hk).1
def zR4 (l : List Job) (H : Nat) (st : PS) : Prop := ∀ b, st.best = some b → Ui l H b ∧ st.len = Xs l b
structure GoS (l : List Job) (H : Nat) (Bd : Int) (tk : Int) (p : List zX) (fr : List Int) (day : Int) (st : PS) (r : PS × Nat) : Prop where
 good : zR4 l H r.1
 mono : st.best.isSome = true → r.1.best.isSome = true ∧ r.1.len ≤ st.len
 day : r.1.best.isSome = true → day ≤ r.1.len
 stop : r.2 ≠ 0 → r.2 ≠ 2 → r.1.best.isSome = true ∧ r.1.len = Bd
 leaf : r.2 ≠ 2 → ∀ o, isO l tk o = true → o.length = xp tk 0 l.length → r.1.best.isSome = true ∧ r.1.len ≤ Xs l (o.foldl (Y6 l) (p, fr)).1
theorem zjC {σ ρ : Type} {f : σ → Nat → σ ⊕ ρ} (I : Nat → σ → Prop) (Z : ρ → Prop) (n : Nat) (hs : ∀ i s, i < n → I i s → match f s i with | .inl s' => I (i + 1) s' | .inr r => Z r) : ∀ (k i : Nat) (s : σ), i + k = n → I i s → match exitL f s (List.range' i k) with | .inl s' => I n s' | .inr r => Z r
 | 0, i, s, h, hI => by
  obtain rfl : i = n := by omega
  exact hI
 | k + 1, i, s, h, hI => by
  rw [List.range'_succ]
  unfold exitL
  have := hs i s (by omega) hI
  cases hf : f s i with
  | inl s' =>
   rw [hf] at this
   exact zjC I Z n hs k (i + 1) s' (by omega) this
  | inr r => rw [hf] at this; exact this
theorem zCL {l : List Job} {H : Nat} {Bd Bg : Int} (hv : VJ l) (hH : 1 ≤ H ∧ H ≤ 4) (hBd : ∀ q, Ui l H q → Bd ≤ Xs l q) : ∀ (k : Nat) (tk : Int) (p : List zX) (fr : List Int) (day : Int) (st : PS),
  zb3 l H tk p fr → ze6 l tk p day → xp tk 0 l.length < k → zR4 l H st → (st.best.isSome = true → day ≤ st.len) → GoS l H Bd tk p fr day st (go l Bd Bg k tk p fr day st)
 | 0, tk, p, fr, day, st, h, hd, hc, hg, hl => by omega
 | k + 1, tk, p, fr, day, st, h, hd, hc, hg, hl => by
  unfold go
  rw [zi8 hv.len h.tok]
  by_cases h0 : xp tk 0 l.length = 0
  ·rw [decide_eq_true h0, cond_true]
   have hm : Ui l H p := ⟨tk, fr, h, fun i hi => (ZY l.length 0).1 h0 i (Nat.zero_le _) (by omega)⟩
   have hlen : Xs l p = day := by
    rw [hd, zbp]
    ·rfl
    ·intro i hi
     rw [List.mem_range'_1] at hi
     exact (ZY l.length 0).1 h0 i (Nat.zero_le _) (by omega)
   refine ⟨fun b e => ?_, fun hs => ⟨rfl, hl hs⟩, fun _ => Int.le_refl _, fun h1 h2 => ⟨rfl, ?_⟩, fun _ o ho hol => ⟨rfl, ?_⟩⟩
   ·cases e
    exact ⟨hm, hlen.symm⟩
   ·show day = Bd
    by_cases e : day = Bd
    ·exact e
    ·exact absurd (show cond (day == Bd) 1 0 = 0 by rw [beq_eq_false_iff_ne.2 e]; rfl) h1
   ·rw [h0] at hol
    obtain rfl := List.eq_nil_of_length_eq_zero hol
    show day ≤ Xs l p
    omega
  ·rw [decide_eq_false h0, cond_false]
   have key := zjC (f := yy l Bg (go l Bd Bg k) tk p fr day) (ρ := PS × Nat)
    (fun i s => zR4 l H s ∧ (st.best.isSome = true → s.best.isSome = true ∧ s.len ≤ st.len) ∧ (s.best.isSome = true → day ≤ s.len) ∧ ∀ j : Nat, j < i → j < l.length → ready l tk j = true → ∀ o, isO l (tkI tk j) o = true → o.length + 1 = xp tk 0 l.length → s.best.isSome = true ∧ s.len ≤ Xs l ((((j : Nat) : Int) :: o).foldl (Y6 l) (p, fr)).1)
    (fun r => GoS l H Bd tk p fr day st r) l.length ?_ l.length 0 st (by omega) ⟨hg, fun hs => ⟨hs, Int.le_refl _⟩, hl, fun j hj => by omega⟩
   ·cases he : exitL (yy l Bg (go l Bd Bg k) tk p fr day) st (List.range' 0 l.length) with
    | inr r => rw [he] at key; exact key
    | inl s =>
     rw [he] at key
     obtain ⟨a, b, c, d⟩ := key
     refine ⟨a, b, c, fun h1 _ => absurd rfl h1, fun _ o ho hol => ?_⟩
     cases o with
     | nil => exact absurd hol.symm (by simpa using h0)
     | cons x o =>
      unfold isO at ho
      cases hx : okO l tk x with
      | false => rw [hx] at ho; cases ho
      | true =>
       rw [hx, cond_true] at ho
       obtain ⟨j, hj, rfl, hr⟩ := zpd h.tok.rng.1 hx
       exact d j hj hj hr o ho (by simpa using hol)
   ·intro i s hi ⟨a, b, c, d⟩
    unfold yy
    ·cases hr : ready l tk i with
     | false =>
      rw [cond_false]
      refine ⟨a, b, c, fun j hj hjl hrj o ho hol => ?_⟩
      by_cases e : j = i
      ·subst e; rw [hr] at hrj; cases hrj
      ·exact d j (by omega) hjl hrj o ho hol
     | true =>
      rw [cond_true]
      obtain ⟨hb, hw⟩ := zlk hv h.tok hi hr
      obtain ⟨s1, s2, s3⟩ := h.step hv hH hi hb hw
      have hd' := V0 hv.len hd h.tok h.plen hi hb (zh l p fr i)
      have hcn := xG (xC h.tok hi hv.len).2 hb l.length 0 (Nat.zero_le _) (by omega)
      have hdl : ∀ o, isO l (tkI tk i) o = true → o.length + 1 = xp tk 0 l.length → max day (yk l (zh l p fr i) i) ≤ Xs l ((((i : Nat) : Int) :: o).foldl (Y6 l) (p, fr)).1 := by
       intro o ho hol
       rw [List.foldl_cons, zv0]
       exact zLZ hv hH s1 hd' ho (by omega)
      cases hsk : (s.best.isSome && decide (yk l (zh l p fr i) i ≥ s.len)) with
      | true =>
       rw [cond_true]
       obtain ⟨k1, k2⟩ := Bool.and_eq_true_iff.1 hsk
       have k2 := of_decide_eq_true k2
       refine ⟨a, b, c, fun j hj hjl hrj o ho hol => ?_⟩
       by_cases e : j = i
       ·subst e
        have := hdl o ho hol
        exact ⟨k1, by omega⟩
       ·exact d j (by omega) hjl hrj o ho hol
      | false =>
       rw [cond_false]
       have hle : s.best.isSome = true → max day (yk l (zh l p fr i) i) ≤ s.len := by
        intro k1
        rw [k1, Bool.true_and] at hsk
        have := of_decide_eq_false hsk
        have := c k1
        omega
       by_cases hbg : s.tr + 1 > Bg
       ·rw [decide_eq_true hbg, cond_true]
        exact ⟨a, b, c, fun _ h2 => absurd rfl h2, fun h2 => absurd rfl h2⟩
       ·rw [decide_eq_false hbg, cond_false]
        have g := zCL (Bg := Bg) hv hH hBd k (tkI tk i) (p.set i (zh l p fr i)) (fr.set (zh l p fr i).1.toNat (yk l (zh l p fr i) i)) (max day (yk l (zh l p fr i) i)) ⟨s.tr + 1, s.len, s.best⟩ s1 hd' (by omega) a hle
        have mono : st.best.isSome = true → (go l Bd Bg k (tkI tk i) (p.set i (zh l p fr i)) (fr.set (zh l p fr i).1.toNat (yk l (zh l p fr i) i)) (max day (yk l (zh l p fr i) i)) ⟨s.tr + 1, s.len, s.best⟩).1.best.isSome = true ∧ (go l Bd Bg k (tkI tk i) (p.set i (zh l p fr i)) (fr.set (zh l p fr i).1.toNat (yk l (zh l p fr i) i)) (max day (yk l (zh l p fr i) i)) ⟨s.tr + 1, s.len, s.best⟩).1.len ≤ st.len := by
         intro hs
         obtain ⟨q1, q2⟩ := b hs
         obtain ⟨q3, q4⟩ := g.mono q1
         exact ⟨q3, Int.le_trans q4 q2⟩
        revert g mono
        generalize go l Bd Bg k (tkI tk i) (p.set i (zh l p fr i)) (fr.set (zh l p fr i).1.toNat (yk l (zh l p fr i) i)) (max day (yk l (zh l p fr i) i)) ⟨s.tr + 1, s.len, s.best⟩ = res
        intro g mono
        match res, g, mono with
        | (s', 0), g, mono =>
         refine ⟨g.good, mono, fun k1 => ?_, fun j hj hjl hrj o ho hol => ?_⟩
         ·have := g.day k1
          show day ≤ s'.len
          have : max day (yk l (zh l p fr i) i) ≤ s'.len := this
          omega
         ·by_cases e : j = i
          ·subst e
           have := g.leaf (show (0 : Nat) ≠ 2 by decide) o ho (by omega)
           rw [List.foldl_cons, zv0]
           exact this
          ·obtain ⟨q1, q2⟩ := d j (by omega) hjl hrj o ho hol
           obtain ⟨q3, q4⟩ := g.mono q1
           exact ⟨q3, Int.le_trans q4 q2⟩
        | (s', n + 1), g, mono =>
         refine ⟨g.good, mono, fun k1 => ?_, fun _ h2 => g.stop (by show n + 1 ≠ 0; omega) h2, fun h2 o ho hol => ?_⟩
         ·have := g.day k1
          have : max day (yk l (zh l p fr i) i) ≤ s'.len := this
          show day ≤ s'.len
          omega
         ·obtain ⟨q1, q2⟩ := g.stop (by show n + 1 ≠ 0; omega) h2
          have := hBd _ (h.fold hv hH o tk p fr ho hol).1
          exact ⟨q1, by rw [q2]; exact this⟩
end Go.RR
namespace Go.RR
open Go
open Go.IntKind (wrap)
section
variable {l : List Job} {Bd Bg : Int} (hj : yh l) (hn : l.length ≤ 12) (hB : Bg ≤ 20000) {k : Nat} {D : zmI} (hD : zSO l Bd Bg k D)
variable {tk : Int} {plan : List zX} {free : List Int} {day : Int} (hI : zb4 l tk plan free) (hc : xp tk 0 l.length ≤ k) (hday : ze6 l tk plan day)
abbrev GC := Int × Int × Int × Int × Int × Int × Int × Bool × List Job × List zX × List zX × List Int
abbrev GD := Int × Int × Int × Int × Int × Int × Int × Bool × List Job × List zX × List zX × List Int × List zX
def zxn (l : List Job) (Bd Bg tk : Int) (plan : List zX) (free : List Int) (i : Nat) (st : PS) (s : GC ⊕ GD) : Prop :=
 ∃ b, st.best = some b ∧ (s = .inl (tk, tkn l tk, (i : Int), Bd, Bg, st.tr, st.len, true, l, b, plan, free) ∨ ∃ old, s = .inr (tk, tkn l tk, (i : Int), Bd, Bg, st.tr, st.len, true, l, old, plan, free, b))
theorem zVy {i : Nat} (hi : i < l.length) (hn : l.length ≤ 12) (htk : 0 ≤ tk) {st : PS} (hab : AB Bd st) {s : GC ⊕ GD} (hs : zxn l Bd Bg tk plan free i st s) : ∃ s', @yY ⟨D⟩ s = some (.inl s') ∧ zxn l Bd Bg tk plan free (i + 1) st s' := by
 obtain ⟨b, hb, rfl | ⟨old, rfl⟩⟩ := hs
 ·refine ⟨.inl (tk, tkn l tk, ((i + 1 : Nat) : Int), Bd, Bg, st.tr, st.len, true, l, b, plan, free), ?_, ⟨b, hb, .inl rfl⟩⟩
  show @Z6 ⟨D⟩ tk (tkn l tk) (i : Int) Bd Bg st.tr st.len true l b plan free = _
  unfold Z6 YS
  try dsimp (config := {proj := false, iota := false, eta := false}) only
  rw [zD hi, zc7 (by omega), Vu, zd, cond_true, cond_false, Xy htk hi, zH (by omega), beq_iff_eq.2 hab.2]
  cases ready l tk i <;> rfl
 ·refine ⟨.inr (tk, tkn l tk, ((i + 1 : Nat) : Int), Bd, Bg, st.tr, st.len, true, l, old, plan, free, b), ?_, ⟨b, hb, .inr ⟨_, rfl⟩⟩⟩
  show @Ze ⟨D⟩ tk (tkn l tk) (i : Int) Bd Bg st.tr st.len true l old plan free b = _
  unfold Ze Z9
  try dsimp (config := {proj := false, iota := false, eta := false}) only
  rw [zD hi, zc7 (by omega), Vu, zd, cond_true, cond_false, Xy htk hi, zH (by omega), beq_iff_eq.2 hab.2]
  cases ready l tk i <;> rfl
include hj hn hB hD hI hc hday
theorem zVs {i : Nat} (hi : i < l.length) {st : PS} (hst : ZP l.length Bg st) (hab : ¬ AB Bd st) {s : GC ⊕ GD} (hs : zxn l Bd Bg tk plan free i st s) :
  (∀ st', yy l Bg (go l Bd Bg k) tk plan free day st i = .inl st' → ∃ s', @yY ⟨D⟩ s = some (.inl s') ∧ zxn l Bd Bg tk plan free (i + 1) st' s' ∧ ZP l.length Bg st' ∧ ¬ AB Bd st') ∧
  (∀ st', yy l Bg (go l Bd Bg k) tk plan free day st i = .inr (st', 1) → ∃ s', @yY ⟨D⟩ s = some (.inl s') ∧ zxn l Bd Bg tk plan free (i + 1) st' s' ∧ ZP l.length Bg st' ∧ AB Bd st') ∧
  (∀ st' c, yy l Bg (go l Bd Bg k) tk plan free day st i = .inr (st', c) → c ≠ 1 → c = 2 ∧ ∃ o, @yY ⟨D⟩ s = some (.inr o) ∧ (VS o).ret = false) := by
 have htk := hI.tk.rng
 have hput := zqQ hj hn hI.plan hi hI.free
 obtain ⟨h, hh1, hh2⟩ := Vd (l := l) (p := plan) (fr := free) (i := i) hI.free
 have hinh : inB (zh l plan free i).1 free.length = true := by rw [hh2]; exact zg hh1
 have hpl : i < plan.length := by rw [hI.plan]; exact hi
 have hpl2 := hI.plan
 have hfr := hI.free
 have htr := hst.tr
 have hov : decide (st.tr + 1 > Bg) = (st.tr == Bg) := by
  apply Bool.eq_iff_iff.2
  rw [decide_eq_true_eq, beq_iff_eq]
  omega
 have hcl := zrN tk l.length 0
 obtain ⟨b, hb, rfl | ⟨old, rfl⟩⟩ := hs
 ·have hstep : @yY ⟨D⟩ (.inl (tk, tkn l tk, (i : Int), Bd, Bg, st.tr, st.len, true, l, b, plan, free)) = @Z6 ⟨D⟩ tk (tkn l tk) (i : Int) Bd Bg st.tr st.len true l b plan free := rfl
  rw [hstep]
  unfold Z6 YS yy
  try dsimp (config := {proj := false, iota := false, eta := false}) only
  rw [zD hi, zc7 (by omega), Vu, zd, cond_true, cond_false, Xy htk.1 hi, zH (by omega)]
  cases hr : ready l tk i
  ·simp only [cond_false]
   refine ⟨fun st' e => ?_, fun st' e => (nomatch e), fun st' c e => (nomatch e)⟩
   cases e
   exact ⟨_, rfl, ⟨b, hb, .inl rfl⟩, hst, hab⟩
  ·simp only [cond_true, cond_false]
   have hlb : (st.len == Bd) = false := by
    apply Bool.eq_false_iff.2
    intro e
    exact hab ⟨by rw [hb]; rfl, beq_iff_eq.1 e⟩
   have hid : wrap .i64 (wrap .i64 (zh l plan free i).2 + wrap .i64 (l.getD i ((0, 0) : Int × Int)).1) = yk l (zh l plan free i) i := rfl
   rw [hlb, cond_false, hput, hb, hov]
   simp only [Option.bind, Option.isSome, Bool.true_and, zg hi, cond_true, cond_false, List.nil_append, hid]
   cases hpr : decide (yk l (zh l plan free i) i ≥ st.len)
   ·simp only [cond_false]
    cases hq : st.tr == Bg
    ·have hready := xE (l := l) htk.1 (show i < 16 by omega) hr
     rw [zG (show (([] : List (Int × Int)).length + plan.length) * 4 ≤ 140737488355328 by simp; omega), zG (show (([] : List Int).length + free.length) * 8 ≤ 140737488355328 by simp; omega), zg hpl, hinh, IntWalk.i64_in (st.tr + 1) (by omega)]
     simp only [cond_true, cond_false]
     have hov' : ¬ st.tr + 1 > Bg := of_decide_eq_false (hov.trans hq)
     have hst1 : ZP l.length Bg ⟨st.tr + 1, st.len, some b⟩ := ⟨by show 0 ≤ st.tr + 1 ∧ st.tr + 1 ≤ Bg; omega, fun b' e => by cases e; exact hst.best b hb⟩
     have hab1 : ¬ AB Bd ⟨st.tr + 1, st.len, some b⟩ := fun e => hab ⟨by rw [hb]; rfl, e.2⟩
     have hI1 := hI.step hn hi (zh l plan free i) (zh l plan free i).1.toNat (yk l (zh l plan free i) i)
     have hcs := xG (xC hI.tk hi hn).2 hready l.length 0 (Nat.zero_le _) (by omega)
     have hc1 : xp (tkI tk i) 0 l.length < k := by omega
     have hd1 := V0 hn hday hI.tk hI.plan hi hready (zh l plan free i)
     have htn : wrap .i64 (tkn l tk + 1) = tkn l (tkI tk i) := by
      unfold tkn
      rw [zH (by omega)]
      congr 1
      omega
     obtain ⟨r, e1, e2⟩ := hD.b _ _ _ (max day (yk l (zh l plan free i) i)) _ b hI1 hst1 hab1 hd1 hc1 rfl
     rw [htn]
     have e1 : D.b (bOr .u16 tk (yl .u16 1 (i : Int))) (tkn l (tkI tk i)) Bd Bg (st.tr + 1) st.len true l b (plan.set i ((zh l plan free i).1, (zh l plan free i).2)) (free.set (zh l plan free i).1.toNat (yk l (zh l plan free i) i)) = some r := e1
     rw [e1]
     generalize hg : go l Bd Bg k (tkI tk i) (plan.set i (zh l plan free i)) (free.set (zh l plan free i).1.toNat (yk l (zh l plan free i) i)) (max day (yk l (zh l plan free i) i)) ⟨st.tr + 1, st.len, some b⟩ = g at e2
     obtain ⟨st2, c⟩ := g
     rcases r with ⟨ret, bd', bg', tr', len', fd', best', plan', free'⟩ | ⟨ret, bd', bg', tr', len', fd', old', plan', free', best'⟩
     ·obtain ⟨f1, f2, f3, f4, f5⟩ := e2
      simp only [VS] at f1 f2 f3 f4 f5
      match c, f1 with
      | 0, _ =>
       obtain ⟨g1, g2, g3, g4, g5, g6, g7⟩ := f3 (by decide)
       subst g1 g2 g3 g4 g5 f2
       refine ⟨fun st' e => ?_, fun st' e => (nomatch e), fun st' c e => (nomatch e)⟩
       have e : (Sum.inl st2 : PS ⊕ (PS × Nat)) = .inl st' := e
       cases e
       exact ⟨_, rfl, ⟨best', g6.symm, by first | (rw [← g6]; exact .inl rfl) | (rw [← g6]; exact .inr ⟨_, rfl⟩)⟩, g7, f4 rfl⟩
      | 1, _ =>
       obtain ⟨g1, g2, g3, g4, g5, g6, g7⟩ := f3 (by decide)
       subst g1 g2 g3 g4 g5 f2
       refine ⟨fun st' e => (nomatch e), fun st' e => ?_, fun st' c e hc => ?_⟩
       ·have e : (Sum.inr (st2, 1) : PS ⊕ (PS × Nat)) = .inr (st', 1) := e
        cases e
        exact ⟨_, rfl, ⟨best', g6.symm, by first | (rw [← g6]; exact .inl rfl) | (rw [← g6]; exact .inr ⟨_, rfl⟩)⟩, g7, f5 rfl⟩
       ·have e : (Sum.inr (st2, 1) : PS ⊕ (PS × Nat)) = .inr (st', c) := e
        cases e
        exact absurd rfl hc
      | 2, _ =>
       subst f2
       refine ⟨fun st' e => (nomatch e), fun st' e => ?_, fun st' c e hc => ?_⟩
       ·have e : (Sum.inr (st2, 2) : PS ⊕ (PS × Nat)) = .inr (st', 1) := e
        cases e
       ·have e : (Sum.inr (st2, 2) : PS ⊕ (PS × Nat)) = .inr (st', c) := e
        cases e
        exact ⟨rfl, _, rfl, rfl⟩
      | c + 3, hc3 => exact absurd hc3 (by omega)
     ·obtain ⟨f1, f2, f3, f4, f5⟩ := e2
      simp only [VS] at f1 f2 f3 f4 f5
      match c, f1 with
      | 0, _ =>
       obtain ⟨g1, g2, g3, g4, g5, g6, g7⟩ := f3 (by decide)
       subst g1 g2 g3 g4 g5 f2
       refine ⟨fun st' e => ?_, fun st' e => (nomatch e), fun st' c e => (nomatch e)⟩
       have e : (Sum.inl st2 : PS ⊕ (PS × Nat)) = .inl st' := e
       cases e
       exact ⟨_, rfl, ⟨best', g6.symm, by first | (rw [← g6]; exact .inl rfl) | (rw [← g6]; exact .inr ⟨_, rfl⟩)⟩, g7, f4 rfl⟩
      | 1, _ =>
       obtain ⟨g1, g2, g3, g4, g5, g6, g7⟩ := f3 (by decide)
       subst g1 g2 g3 g4 g5 f2
       refine ⟨fun st' e => (nomatch e), fun st' e => ?_, fun st' c e hc => ?_⟩
       ·have e : (Sum.inr (st2, 1) : PS ⊕ (PS × Nat)) = .inr (st', 1) := e
        cases e
        exact ⟨_, rfl, ⟨best', g6.symm, by first | (rw [← g6]; exact .inl rfl) | (rw [← g6]; exact .inr ⟨_, rfl⟩)⟩, g7, f5 rfl⟩
       ·have e : (Sum.inr (st2, 1) : PS ⊕ (PS × Nat)) = .inr (st', c) := e
        cases e
        exact absurd rfl hc
      | 2, _ =>
       subst f2
       refine ⟨fun st' e => (nomatch e), fun st' e => ?_, fun st' c e hc => ?_⟩
       ·have e : (Sum.inr (st2, 2) : PS ⊕ (PS × Nat)) = .inr (st', 1) := e
        cases e
       ·have e : (Sum.inr (st2, 2) : PS ⊕ (PS × Nat)) = .inr (st', c) := e
        cases e
        exact ⟨rfl, _, rfl, rfl⟩
      | c + 3, hc3 => exact absurd hc3 (by omega)
    ·refine ⟨fun st' e => (nomatch e), fun st' e => (nomatch e), fun st' c e hc => ?_⟩
     cases e
     exact ⟨rfl, _, rfl, rfl⟩
   ·simp only [cond_true]
    refine ⟨fun st' e => ?_, fun st' e => (nomatch e), fun st' c e => (nomatch e)⟩
    cases e
    exact ⟨_, rfl, ⟨b, hb, .inl rfl⟩, hst, hab⟩
 ·have hstep : @yY ⟨D⟩ (.inr (tk, tkn l tk, (i : Int), Bd, Bg, st.tr, st.len, true, l, old, plan, free, b)) = @Ze ⟨D⟩ tk (tkn l tk) (i : Int) Bd Bg st.tr st.len true l old plan free b := rfl
  rw [hstep]
  unfold Ze Z9 yy
  try dsimp (config := {proj := false, iota := false, eta := false}) only
  rw [zD hi, zc7 (by omega), Vu, zd, cond_true, cond_false, Xy htk.1 hi, zH (by omega)]
  cases hr : ready l tk i
  ·simp only [cond_false]
   refine ⟨fun st' e => ?_, fun st' e => (nomatch e), fun st' c e => (nomatch e)⟩
   cases e
   exact ⟨_, rfl, ⟨b, hb, .inr ⟨_, rfl⟩⟩, hst, hab⟩
  ·simp only [cond_true, cond_false]
   have hlb : (st.len == Bd) = false := by
    apply Bool.eq_false_iff.2
    intro e
    exact hab ⟨by rw [hb]; rfl, beq_iff_eq.1 e⟩
   have hid : wrap .i64 (wrap .i64 (zh l plan free i).2 + wrap .i64 (l.getD i ((0, 0) : Int × Int)).1) = yk l (zh l plan free i) i := rfl
   rw [hlb, cond_false, hput, hb, hov]
   simp only [Option.bind, Option.isSome, Bool.true_and, zg hi, cond_true, cond_false, List.nil_append, hid]
   cases hpr : decide (yk l (zh l plan free i) i ≥ st.len)
   ·simp only [cond_false]
    cases hq : st.tr == Bg
    ·have hready := xE (l := l) htk.1 (show i < 16 by omega) hr
     rw [zG (show (([] : List (Int × Int)).length + plan.length) * 4 ≤ 140737488355328 by simp; omega), zG (show (([] : List Int).length + free.length) * 8 ≤ 140737488355328 by simp; omega), zg hpl, hinh, IntWalk.i64_in (st.tr + 1) (by omega)]
     simp only [cond_true, cond_false]
     have hov' : ¬ st.tr + 1 > Bg := of_decide_eq_false (hov.trans hq)
     have hst1 : ZP l.length Bg ⟨st.tr + 1, st.len, some b⟩ := ⟨by show 0 ≤ st.tr + 1 ∧ st.tr + 1 ≤ Bg; omega, fun b' e => by cases e; exact hst.best b hb⟩
     have hab1 : ¬ AB Bd ⟨st.tr + 1, st.len, some b⟩ := fun e => hab ⟨by rw [hb]; rfl, e.2⟩
     have hI1 := hI.step hn hi (zh l plan free i) (zh l plan free i).1.toNat (yk l (zh l plan free i) i)
     have hcs := xG (xC hI.tk hi hn).2 hready l.length 0 (Nat.zero_le _) (by omega)
     have hc1 : xp (tkI tk i) 0 l.length < k := by omega
     have hd1 := V0 hn hday hI.tk hI.plan hi hready (zh l plan free i)
     have htn : wrap .i64 (tkn l tk + 1) = tkn l (tkI tk i) := by
      unfold tkn
      rw [zH (by omega)]
      congr 1
      omega
     obtain ⟨r, e1, e2⟩ := hD.b _ _ _ (max day (yk l (zh l plan free i) i)) _ b hI1 hst1 hab1 hd1 hc1 rfl
     rw [htn]
     have e1 : D.b (bOr .u16 tk (yl .u16 1 (i : Int))) (tkn l (tkI tk i)) Bd Bg (st.tr + 1) st.len true l b (plan.set i ((zh l plan free i).1, (zh l plan free i).2)) (free.set (zh l plan free i).1.toNat (yk l (zh l plan free i) i)) = some r := e1
     rw [e1]
     generalize hg : go l Bd Bg k (tkI tk i) (plan.set i (zh l plan free i)) (free.set (zh l plan free i).1.toNat (yk l (zh l plan free i) i)) (max day (yk l (zh l plan free i) i)) ⟨st.tr + 1, st.len, some b⟩ = g at e2
     obtain ⟨st2, c⟩ := g
     rcases r with ⟨ret, bd', bg', tr', len', fd', best', plan', free'⟩ | ⟨ret, bd', bg', tr', len', fd', old', plan', free', best'⟩
     ·obtain ⟨f1, f2, f3, f4, f5⟩ := e2
      simp only [VS] at f1 f2 f3 f4 f5
      match c, f1 with
      | 0, _ =>
       obtain ⟨g1, g2, g3, g4, g5, g6, g7⟩ := f3 (by decide)
       subst g1 g2 g3 g4 g5 f2
       refine ⟨fun st' e => ?_, fun st' e => (nomatch e), fun st' c e => (nomatch e)⟩
       have e : (Sum.inl st2 : PS ⊕ (PS × Nat)) = .inl st' := e
       cases e
       exact ⟨_, rfl, ⟨best', g6.symm, by first | (rw [← g6]; exact .inl rfl) | (rw [← g6]; exact .inr ⟨_, rfl⟩)⟩, g7, f4 rfl⟩
      | 1, _ =>
       obtain ⟨g1, g2, g3, g4, g5, g6, g7⟩ := f3 (by decide)
       subst g1 g2 g3 g4 g5 f2
       refine ⟨fun st' e => (nomatch e), fun st' e => ?_, fun st' c e hc => ?_⟩
       ·have e : (Sum.inr (st2, 1) : PS ⊕ (PS × Nat)) = .inr (st', 1) := e
        cases e
        exact ⟨_, rfl, ⟨best', g6.symm, by first | (rw [← g6]; exact .inl rfl) | (rw [← g6]; exact .inr ⟨_, rfl⟩)⟩, g7, f5 rfl⟩
       ·have e : (Sum.inr (st2, 1) : PS ⊕ (PS × Nat)) = .inr (st', c) := e
        cases e
        exact absurd rfl hc
      | 2, _ =>
       subst f2
       refine ⟨fun st' e => (nomatch e), fun st' e => ?_, fun st' c e hc => ?_⟩
       ·have e : (Sum.inr (st2, 2) : PS ⊕ (PS × Nat)) = .inr (st', 1) := e
        cases e
       ·have e : (Sum.inr (st2, 2) : PS ⊕ (PS × Nat)) = .inr (st', c) := e
        cases e
        exact ⟨rfl, _, rfl, rfl⟩
      | c + 3, hc3 => exact absurd hc3 (by omega)
     ·obtain ⟨f1, f2, f3, f4, f5⟩ := e2
      simp only [VS] at f1 f2 f3 f4 f5
      match c, f1 with
      | 0, _ =>
       obtain ⟨g1, g2, g3, g4, g5, g6, g7⟩ := f3 (by decide)
       subst g1 g2 g3 g4 g5 f2
       refine ⟨fun st' e => ?_, fun st' e => (nomatch e), fun st' c e => (nomatch e)⟩
       have e : (Sum.inl st2 : PS ⊕ (PS × Nat)) = .inl st' := e
       cases e
       exact ⟨_, rfl, ⟨best', g6.symm, by first | (rw [← g6]; exact .inl rfl) | (rw [← g6]; exact .inr ⟨_, rfl⟩)⟩, g7, f4 rfl⟩
      | 1, _ =>
       obtain ⟨g1, g2, g3, g4, g5, g6, g7⟩ := f3 (by decide)
       subst g1 g2 g3 g4 g5 f2
       refine ⟨fun st' e => (nomatch e), fun st' e => ?_, fun st' c e hc => ?_⟩
       ·have e : (Sum.inr (st2, 1) : PS ⊕ (PS × Nat)) = .inr (st', 1) := e
        cases e
        exact ⟨_, rfl, ⟨best', g6.symm, by first | (rw [← g6]; exact .inl rfl) | (rw [← g6]; exact .inr ⟨_, rfl⟩)⟩, g7, f5 rfl⟩
       ·have e : (Sum.inr (st2, 1) : PS ⊕ (PS × Nat)) = .inr (st', c) := e
        cases e
        exact absurd rfl hc
      | 2, _ =>
       subst f2
       refine ⟨fun st' e => (nomatch e), fun st' e => ?_, fun st' c e hc => ?_⟩
       ·have e : (Sum.inr (st2, 2) : PS ⊕ (PS × Nat)) = .inr (st', 1) := e
        cases e
       ·have e : (Sum.inr (st2, 2) : PS ⊕ (PS × Nat)) = .inr (st', c) := e
        cases e
        exact ⟨rfl, _, rfl, rfl⟩
      | c + 3, hc3 => exact absurd hc3 (by omega)
    ·refine ⟨fun st' e => (nomatch e), fun st' e => (nomatch e), fun st' c e hc => ?_⟩
     cases e
     exact ⟨rfl, _, rfl, rfl⟩
   ·simp only [cond_true]
    refine ⟨fun st' e => ?_, fun st' e => (nomatch e), fun st' c e => (nomatch e)⟩
    cases e
    exact ⟨_, rfl, ⟨b, hb, .inr ⟨_, rfl⟩⟩, hst, hab⟩
end
end Go.RR
namespace Go.RR
open Go
open Go.IntKind (wrap)
section
variable {l : List Job} {Bd Bg : Int} (hj : yh l) (hn : l.length ≤ 12) (hB : Bg ≤ 20000)
section
variable {k : Nat} {D : zmI}
variable {tk : Int} {plan : List zX} {free : List Int} {day : Int}
theorem zVp (st : PS) (hst : ZP l.length Bg st) (c : Nat) (hc : c = 0 ∧ ¬ AB Bd st ∨ c = 1 ∧ AB Bd st) : ∃ o, @y0 ⟨D⟩ (emS l Bd Bg tk plan free l.length st) = some (.inr o) ∧ IsS l.length Bd Bg (st, c) (Ws o) := by
 have fin : ∀ o : TS1 ⊕ TS2, (Ws o) = ⟨true, Bd, Bg, st.tr, st.len, st.best.isSome, st.best⟩ → IsS l.length Bd Bg (st, c) (Ws o) := by
  intro o e
  rw [e]
  rcases hc with ⟨rfl, h⟩ | ⟨rfl, h⟩
  ·exact IsS.mk (show (0 : Nat) ≤ 2 by decide) rfl (fun _ => ⟨rfl, rfl, rfl, rfl, rfl, rfl, hst⟩) (fun _ => h) (fun h => absurd h (show ¬ (0 : Nat) = 1 by decide))
  ·exact IsS.mk (show (1 : Nat) ≤ 2 by decide) rfl (fun _ => ⟨rfl, rfl, rfl, rfl, rfl, rfl, hst⟩) (fun h => absurd h (show ¬ (1 : Nat) = 0 by decide)) (fun _ => h)
 cases hb : st.best with
 | none =>
  have hem : emS l Bd Bg tk plan free l.length st = .inl (tk, tkn l tk, ((l.length : Nat) : Int), Bd, Bg, st.tr, st.len, false, l, plan, free) := by unfold emS; rw [hb]
  rw [hem]
  refine ⟨mkX (true, Bd, Bg, st.tr, st.len, false, plan, free), ?_, fin _ (by rw [hb]; rfl)⟩
  show @XS ⟨D⟩ tk (tkn l tk) ((l.length : Nat) : Int) Bd Bg st.tr st.len false l plan free = _
  unfold XS XE
  try dsimp (config := {proj := false, iota := false, eta := false}) only
  rw [zS, cond_false]
 | some b =>
  have hem : emS l Bd Bg tk plan free l.length st = .inr (tk, tkn l tk, ((l.length : Nat) : Int), Bd, Bg, st.tr, st.len, true, l, plan, free, b) := by unfold emS; rw [hb]
  rw [hem]
  refine ⟨mkY (true, Bd, Bg, st.tr, st.len, true, plan, free, b), ?_, fin _ (by rw [hb]; rfl)⟩
  show @Zm ⟨D⟩ tk (tkn l tk) ((l.length : Nat) : Int) Bd Bg st.tr st.len true l plan free b = _
  unfold Zm ZU
  try dsimp (config := {proj := false, iota := false, eta := false}) only
  rw [zS, cond_false]
theorem ztG (hn : l.length ≤ 12) (htk : 0 ≤ tk) : ∀ (cnt i M : Nat) (st : PS), i + cnt = l.length → cnt < M → ZP l.length Bg st → AB Bd st → ∃ o, zI (@y0 ⟨D⟩) M (emS l Bd Bg tk plan free i st) = some o ∧ IsS l.length Bd Bg (st, 1) (Ws o)
 | 0, i, M + 1, st, hi, hm, hst, hab => by
  obtain rfl : i = l.length := hi
  obtain ⟨o, e1, e2⟩ := zVp (D := D) (tk := tk) (plan := plan) (free := free) st hst 1 (.inr ⟨rfl, hab⟩)
  exact ⟨o, xZ e1, e2⟩
 | cnt + 1, i, M + 1, st, hi, hm, hst, hab => by
  rw [Wh (zUI (D := D) (Bg := Bg) (plan := plan) (free := free) (show i < l.length by omega) hn htk hab)]
  exact ztG hn htk cnt (i + 1) M st (by omega) (by omega) hst hab
 | cnt, i, 0, st, hi, hm, _, _ => by omega
theorem zVr (st : PS) (hst : ZP l.length Bg st) {s : GC ⊕ GD} (hs : zxn l Bd Bg tk plan free l.length st s) (c : Nat) (hc : c = 0 ∧ ¬ AB Bd st ∨ c = 1 ∧ AB Bd st) : ∃ o, @yY ⟨D⟩ s = some (.inr o) ∧ IsS l.length Bd Bg (st, c) (VS o) := by
 have fin : ∀ o : TT1 ⊕ TT2, (VS o) = ⟨true, Bd, Bg, st.tr, st.len, st.best.isSome, st.best⟩ → IsS l.length Bd Bg (st, c) (VS o) := by
  intro o e
  rw [e]
  rcases hc with ⟨rfl, h⟩ | ⟨rfl, h⟩
  ·exact IsS.mk (show (0 : Nat) ≤ 2 by decide) rfl (fun _ => ⟨rfl, rfl, rfl, rfl, rfl, rfl, hst⟩) (fun _ => h) (fun h => absurd h (show ¬ (0 : Nat) = 1 by decide))
  ·exact IsS.mk (show (1 : Nat) ≤ 2 by decide) rfl (fun _ => ⟨rfl, rfl, rfl, rfl, rfl, rfl, hst⟩) (fun h => absurd h (show ¬ (1 : Nat) = 0 by decide)) (fun _ => h)
 obtain ⟨b, hb, rfl | ⟨old, rfl⟩⟩ := hs
 ·refine ⟨mkX (true, Bd, Bg, st.tr, st.len, true, b, plan, free), ?_, fin _ (by rw [hb]; rfl)⟩
  show @Z6 ⟨D⟩ tk (tkn l tk) ((l.length : Nat) : Int) Bd Bg st.tr st.len true l b plan free = _
  unfold Z6 YS
  try dsimp (config := {proj := false, iota := false, eta := false}) only
  rw [zS, cond_false]
 ·refine ⟨mkY (true, Bd, Bg, st.tr, st.len, true, old, plan, free, b), ?_, fin _ (by rw [hb]; rfl)⟩
  show @Ze ⟨D⟩ tk (tkn l tk) ((l.length : Nat) : Int) Bd Bg st.tr st.len true l old plan free b = _
  unfold Ze Z9
  try dsimp (config := {proj := false, iota := false, eta := false}) only
  rw [zS, cond_false]
theorem zwF (hn : l.length ≤ 12) (htk : 0 ≤ tk) : ∀ (cnt i M : Nat) (st : PS) (s : GC ⊕ GD), i + cnt = l.length → cnt < M → ZP l.length Bg st → AB Bd st → zxn l Bd Bg tk plan free i st s → ∃ o, zI (@yY ⟨D⟩) M s = some o ∧ IsS l.length Bd Bg (st, 1) (VS o)
 | 0, i, M + 1, st, s, hi, hm, hst, hab, hs => by
  obtain rfl : i = l.length := hi
  obtain ⟨o, e1, e2⟩ := zVr (D := D) st hst hs 1 (.inr ⟨rfl, hab⟩)
  exact ⟨o, xZ e1, e2⟩
 | cnt + 1, i, M + 1, st, s, hi, hm, hst, hab, hs => by
  obtain ⟨s', e1, e2⟩ := zVy (D := D) (show i < l.length by omega) hn htk hab hs
  rw [Wh e1]
  exact zwF hn htk cnt (i + 1) M st s' (by omega) (by omega) hst hab e2
 | cnt, i, 0, st, s, hi, hm, _, _, _ => by omega
variable (hD : zSO l Bd Bg k D) (hI : zb4 l tk plan free) (hc : xp tk 0 l.length ≤ k) (hday : ze6 l tk plan day)
include hj hn hB hD hI hc hday
theorem zU9 : ∀ (cnt i M : Nat) (st : PS), i + cnt = l.length → cnt < M → ZP l.length Bg st → ¬ AB Bd st →
  ∃ o, zI (@y0 ⟨D⟩) M (emS l Bd Bg tk plan free i st) = some o ∧ IsS l.length Bd Bg (zJl (exitL (yy l Bg (go l Bd Bg k) tk plan free day) st (List.range' i cnt))) (Ws o)
 | 0, i, M + 1, st, hi, hm, hst, hab => by
  obtain rfl : i = l.length := hi
  obtain ⟨o, e1, e2⟩ := zVp (D := D) (tk := tk) (plan := plan) (free := free) st hst 0 (.inl ⟨rfl, hab⟩)
  exact ⟨o, xZ e1, e2⟩
 | cnt + 1, i, M + 1, st, hi, hm, hst, hab => by
  obtain ⟨h1, h2, h3⟩ := zVz hj hn hB hD hI hc hday (show i < l.length by omega) hst hab
  rw [List.range'_succ]
  unfold exitL
  cases hg : yy l Bg (go l Bd Bg k) tk plan free day st i with
  | inl st' =>
   obtain ⟨e1, e2, e3⟩ := h1 st' hg
   rw [Wh e1]
   exact zU9 cnt (i + 1) M st' (by omega) (by omega) e2 e3
  | inr r =>
   obtain ⟨st', c⟩ := r
   by_cases hc1 : c = 1
   ·subst hc1
    obtain ⟨e1, e2, e3⟩ := h2 st' hg
    rw [Wh e1]
    exact ztG hn hI.tk.rng.1 cnt (i + 1) M st' (by omega) (by omega) e2 e3
   ·obtain ⟨rfl, o, e1, e2⟩ := h3 st' c hg hc1
    exact ⟨o, xZ e1, IsS.mk (Nat.le_refl _) e2 (fun h => absurd rfl h) (fun h => absurd h (show ¬ (2 : Nat) = 0 by decide)) (fun h => absurd h (show ¬ (2 : Nat) = 1 by decide))⟩
 | cnt, i, 0, st, hi, hm, hst, _ => by omega
theorem zUJ : ∀ (cnt i M : Nat) (st : PS) (s : GC ⊕ GD), i + cnt = l.length → cnt < M → ZP l.length Bg st → ¬ AB Bd st → zxn l Bd Bg tk plan free i st s →
  ∃ o, zI (@yY ⟨D⟩) M s = some o ∧ IsS l.length Bd Bg (zJl (exitL (yy l Bg (go l Bd Bg k) tk plan free day) st (List.range' i cnt))) (VS o)
 | 0, i, M + 1, st, s, hi, hm, hst, hab, hs => by
  obtain rfl : i = l.length := hi
  obtain ⟨o, e1, e2⟩ := zVr (D := D) st hst hs 0 (.inl ⟨rfl, hab⟩)
  exact ⟨o, xZ e1, e2⟩
 | cnt + 1, i, M + 1, st, s, hi, hm, hst, hab, hs => by
  obtain ⟨h1, h2, h3⟩ := zVs hj hn hB hD hI hc hday (show i < l.length by omega) hst hab hs
  rw [List.range'_succ]
  unfold exitL
  cases hg : yy l Bg (go l Bd Bg k) tk plan free day st i with
  | inl st' =>
   obtain ⟨s', e1, e2, e3, e4⟩ := h1 st' hg
   rw [Wh e1]
   exact zUJ cnt (i + 1) M st' s' (by omega) (by omega) e3 e4 e2
  | inr r =>
   obtain ⟨st', c⟩ := r
   by_cases hc1 : c = 1
   ·subst hc1
    obtain ⟨s', e1, e2, e3, e4⟩ := h2 st' hg
    rw [Wh e1]
    exact zwF hn hI.tk.rng.1 cnt (i + 1) M st' s' (by omega) (by omega) e3 e4 e2
   ·obtain ⟨rfl, o, e1, e2⟩ := h3 st' c hg hc1
    exact ⟨o, xZ e1, IsS.mk (Nat.le_refl _) e2 (fun h => absurd rfl h) (fun h => absurd h (show ¬ (2 : Nat) = 0 by decide)) (fun h => absurd h (show ¬ (2 : Nat) = 1 by decide))⟩
 | cnt, i, 0, st, s, hi, hm, hst, _, _ => by omega
end
include hj hn hB
theorem zTw : ∀ k, zSO l Bd Bg k (zaP k)
 | 0 => ⟨fun _ _ _ _ _ _ _ _ _ h => absurd h (Nat.not_lt_zero _), fun _ _ _ _ _ _ _ _ _ _ h => absurd h (Nat.not_lt_zero _)⟩
 | k + 1 => by
  have ih := zTw k
  have hgo : ∀ tk plan free day st, go l Bd Bg (k + 1) tk plan free day st = cond (tk == vZ l.length) (⟨st.tr, day, some plan⟩, cond (day == Bd) 1 0) (zJl (exitL (yy l Bg (go l Bd Bg k) tk plan free day) st (List.range' 0 l.length))) := fun _ _ _ _ _ => rfl
  have hend : ∀ tk plan free, zb4 l tk plan free → (tkn l tk == ((l.length : Nat) : Int)) = (tk == vZ l.length) := by
   intro tk plan free hI
   rw [zi8 hn hI.tk]
   have := zrN tk l.length 0
   apply Bool.eq_iff_iff.2
   rw [beq_iff_eq, decide_eq_true_eq]
   unfold tkn
   omega
  have hlen : ∀ tk plan free day, zb4 l tk plan free → ze6 l tk plan day → (tk == vZ l.length) = true → zfU l plan = some day := by
   intro tk plan free day hI hd hf
   rw [zi8 hn hI.tk, decide_eq_true_eq, ZY] at hf
   rw [zSL hn hI.plan]
   unfold ze6 at hd
   rw [hd, zbp _ _ fun k hk => hf k (Nat.zero_le _) (by rw [List.mem_range'_1] at hk; omega)]
   rfl
  have hfin : ∀ (plan : List zX) (day : Int) (st : PS) (o : zSU), plan.length = l.length → ZP l.length Bg st → o = ⟨true, Bd, Bg, st.tr, day, true, some plan⟩ → IsS l.length Bd Bg (⟨st.tr, day, some plan⟩, cond (day == Bd) 1 0) o := by
   intro plan day st o hp hst e
   subst e
   have hok : ZP l.length Bg ⟨st.tr, day, some plan⟩ := ⟨hst.tr, fun b e => by cases e; exact hp⟩
   cases hd : day == Bd
   ·exact IsS.mk (show (0 : Nat) ≤ 2 by decide) rfl (fun _ => ⟨rfl, rfl, rfl, rfl, rfl, rfl, hok⟩) (fun _ h => by
     have := h.2
     rw [beq_eq_false_iff_ne] at hd
     exact hd this) (fun h => absurd h (show ¬ (0 : Nat) = 1 by decide))
   ·exact IsS.mk (show (1 : Nat) ≤ 2 by decide) rfl (fun _ => ⟨rfl, rfl, rfl, rfl, rfl, rfl, hok⟩) (fun h => absurd h (show ¬ (1 : Nat) = 0 by decide)) (fun _ => ⟨rfl, beq_iff_eq.1 hd⟩)
  refine ⟨fun tk plan free day st hI hst hab hd hc hb => ?_, fun tk plan free day st b hI hst hab hd hc hb => ?_⟩
  ·show ∃ r, @zbw ⟨zaP k⟩ tk (tkn l tk) Bd Bg st.tr st.len false l plan free = some r ∧ _
   have hp := hI.plan
   unfold zbw V8
   try dsimp (config := {proj := false, iota := false, eta := false}) only
   rw [hend tk plan free hI, hgo, zG (show (([] : List (Int × Int)).length + plan.length) * 4 ≤ 140737488355328 by simp; omega)]
   cases hf : tk == vZ l.length
   ·have hr := zU9 (day := day) hj hn hB ih hI (by omega) hd l.length 0 FU st (by omega) (yC (ym (by omega))) hst hab
    have hem : emS l Bd Bg tk plan free 0 st = .inl (tk, tkn l tk, 0, Bd, Bg, st.tr, st.len, false, l, plan, free) := by unfold emS; rw [hb]; rfl
    rw [hem] at hr
    exact hr
   ·rw [hlen tk plan free day hI hd hf]
    exact ⟨_, rfl, hfin plan day st _ hp hst rfl⟩
  ·show ∃ r, @zbQ ⟨zaP k⟩ tk (tkn l tk) Bd Bg st.tr st.len true l b plan free = some r ∧ _
   have hp := hI.plan
   unfold zbQ uL
   try dsimp (config := {proj := false, iota := false, eta := false}) only
   rw [hend tk plan free hI, hgo, zG (show (([] : List (Int × Int)).length + plan.length) * 4 ≤ 140737488355328 by simp; omega)]
   cases hf : tk == vZ l.length
   ·exact zUJ (day := day) hj hn hB ih hI (by omega) hd l.length 0 FU st _ (by omega) (yC (ym (by omega))) hst hab ⟨b, hb, .inl rfl⟩
   ·rw [hlen tk plan free day hI hd hf]
    exact ⟨_, rfl, hfin plan day st _ hp hst rfl⟩
end
end Go.RR
namespace Go.RR
open Go
open Go.IntKind (wrap)
theorem zbz (k : Nat) : tb 0 k = false := by
 show (0 : Int).toNat.testBit k = false
 exact Nat.zero_testBit k
theorem Xd : ∀ (n a : Nat), xp 0 a n = n
 | 0, _ => rfl
 | n + 1, a => by
  simp only [xp]
  rw [zbz, Xd n (a + 1), cond_false]; omega
theorem zf2 {p : Nat → Bool} {f : Nat → Int} (h : ∀ k, p k = false) : ∀ (ks : List Nat) (m : Int), Yu p f ks m = m
 | [], _ => rfl
 | k :: ks, m => by
  show Yu p f ks (cond (p k) (max m (f k)) m) = m
  rw [h k, cond_false]
  exact zf2 h ks m
noncomputable def goB (l : List Job) (n : Nat) (Bg : Int) : PS × Nat := go l (ZO l (n : Int)) Bg 13 0 (List.replicate l.length (0, 0)) (List.replicate n 0) 0 ⟨0, 0, none⟩
theorem zBz {l : List Job} {Bg : Int} {n : Nat} (hn : l.length ≤ 12) (hB : 0 ≤ Bg ∧ Bg ≤ 20000) (hh : 1 ≤ n ∧ n ≤ 4) : zb4 l 0 (List.replicate l.length (0, 0)) (List.replicate n 0) ∧ ZP l.length Bg ⟨0, 0, none⟩ ∧ xp 0 0 l.length < 13 := by
 refine ⟨⟨⟨by omega, Nat.pow_pos (by decide)⟩, by simp, by simp; omega⟩, ⟨hB.1 |> fun h => ⟨Int.le_refl _, h⟩, fun b e => nomatch e⟩, ?_⟩
 rw [Xd]; omega
section
variable {l : List Job} {Bg : Int} {n : Nat} (hj : yh l) (hn : l.length ≤ 12) (hB : 0 ≤ Bg ∧ Bg ≤ 20000) (hh : 1 ≤ n ∧ n ≤ 4)
include hj hn hB hh
theorem zRK : zlp l (n : Int) Bg = some ((goB l n Bg).1.best.getD [], (goB l n Bg).1.len, !decide ((goB l n Bg).2 = 2)) := by
 obtain ⟨h1, h2, h3⟩ := zBz hn hB hh
 obtain ⟨r, e1, e2⟩ := (zrq (Bd := ZO l (n : Int)) hj hn hB.2 13).a 0 _ _ 0 _ h1 h2 h3 rfl
 have e1 : (u0.c).a 0 0 0 (ZO l (n : Int)) 0 Bg false l (List.replicate l.length (0, 0)) (List.replicate n 0) = some r := e1
 unfold zlp znk WW YH
 try dsimp (config := {proj := false, iota := false, eta := false}) only
 rw [zom _ _ (by omega), zAP hh.2, zKN hj hn (by omega)]
 simp only [cond_true, Option.bind, zd]
 rw [e1]
 obtain ⟨f1, f2, f3, f4, f5, f6, f7, f8, f9⟩ := e2
 have hg : goB l n Bg = go l (ZO l (n : Int)) Bg 13 0 (List.replicate l.length (0, 0)) (List.replicate n 0) 0 ⟨0, 0, none⟩ := rfl
 rw [← hg] at f1 f2 f6 f7
 rw [← f2, ← f6, ← f7]
 rcases r with r | r <;> rfl
theorem zUH {α : Type} (F : TS1 → Option α) (G : TS2 → Option α) (z : Option α) (h : ∀ r : TS1 ⊕ TS2, IsS l.length (ZO l (n : Int)) Bg (goB l n Bg) (Ws r) → (match r with | .inl x => F x | .inr y => G y) = z) :
  yR ((Zb.c).a 0 0 (ZO l (n : Int)) Bg 0 0 false l (List.replicate l.length ((0, 0) : Int × Int)) (List.replicate n 0)) F G = z := by
 obtain ⟨h1, h2, h3⟩ := zBz hn hB hh
 have hab : ¬ AB (ZO l (n : Int)) ⟨0, 0, none⟩ := fun e => by cases e.1
 have hd : ze6 l 0 (List.replicate l.length (0, 0)) 0 := (zf2 (fun k => zbz k) _ _).symm
 obtain ⟨r, e1, e2⟩ := (zTw (Bd := ZO l (n : Int)) hj hn hB.2 13).a 0 _ _ 0 _ h1 h2 hab hd h3 rfl
 have ht : tkn l 0 = 0 := by unfold tkn; rw [Xd, Nat.sub_self]; rfl
 rw [ht] at e1
 have e1 : (Zb.c).a 0 0 (ZO l (n : Int)) Bg 0 0 false l (List.replicate l.length (0, 0)) (List.replicate n 0) = some r := e1
 rw [e1, ← h r e2]
 cases r <;> rfl
end
noncomputable def vE (l : List Job) (n : Nat) (Bg : Int) : List zX × Int × Int := cond (decide ((goB l n Bg).2 = 2)) ([], 0, 7) ((goB l n Bg).1.best.getD [], (goB l n Bg).1.len, 0)
noncomputable def zeX (l : List Job) (h Bg : Int) : List zX × Int × Int :=
 cond (!(yI l)) ([], 0, 1) (cond (!(xS h)) ([], 0, 2) (cond (!(zK Bg 0 20000)) ([], 0, 2) (vE l h.toNat Bg)))
theorem zPa {Bg : Int} (h : zK Bg 0 20000 = true) : 0 ≤ Bg ∧ Bg ≤ 20000 := by
 unfold zK at h
 by_cases h1 : Bg ≥ 0
 ·rw [decide_eq_true h1, cond_true] at h
  exact ⟨h1, of_decide_eq_true h⟩
 ·rw [decide_eq_false h1] at h; cases h
theorem zUg {l : List Job} {h Bg : Int} (hj : yh l) (hl : l.length ≤ 100000000) : zkw l h Bg = some (zeX l h Bg) := by
 have ew : yf Bg 0 20000 = zK Bg 0 20000 := rfl
 have eh : W1 h = xS h := rfl
 unfold zkw zlS zeX
 try dsimp (config := {proj := false, iota := false, eta := false}) only
 rw [zBh l hl, ew, eh]
 cases hv : yI l with
 | false => cases xS h <;> cases zK Bg 0 20000 <;> rfl
 | true =>
  have hn := (Yg hv).1
  cases hh : xS h with
  | false => rfl
  | true =>
   cases hb : zK Bg 0 20000 with
   | false => rfl
   | true =>
    obtain ⟨n, rfl, h1, h2⟩ := ze8 hh
    simp only [Option.bind, cond_true, Bool.not_true, cond_false, show (ZG true true != 0) = false from rfl, zRK hj hn (zPa hb) ⟨h1, h2⟩, zd]
    unfold vE
    cases decide ((goB l n Bg).2 = 2) <;> rfl
theorem zUk {l : List Job} {h Bg : Int} (hj : yh l) (hl : l.length ≤ 100000000) : zh3 l h Bg = some (zeX l h Bg) := by
 unfold zh3 ziX zhM zeX
 try dsimp (config := {proj := false, iota := false, eta := false}) only
 rw [zBp l hl]
 cases hv : yI l with
 | false => cases zK Bg 0 20000 <;> rfl
 | true =>
  obtain ⟨hn, hord⟩ := Yg hv
  cases hh : xS h with
  | false => cases zK Bg 0 20000 <;> rfl
  | true =>
   cases hb : zK Bg 0 20000 with
   | false => rfl
   | true =>
    obtain ⟨n, rfl, h1, h2⟩ := ze8 hh
    have key : ∀ z, z = vE l n Bg → some z = some (vE l n Bg) := fun z e => by rw [e]
    rw [zom l.length 4 (by omega), zAP h2]
    simp only [Option.bind, Bool.not_true, cond_true, cond_false, show ((0 : Int) == 0) = true from rfl, show ((0 : Int) != 0) = false from rfl, zJU hj hn hord (show (n : Int) ≠ 0 by omega), zd]
    refine zUH hj hn (zPa hb) ⟨h1, h2⟩ _ _ _ fun r hr => ?_
    obtain ⟨g1, g2, g3, g4, g5⟩ := hr
    have e2 : (Ws r).ret = !decide ((goB l n Bg).2 = 2) := by rw [g2]; simp
    unfold vE
    cases hq : decide ((goB l n Bg).2 = 2)
    ·rw [hq] at e2
     obtain ⟨_, _, _, i4, _, i6, _⟩ := g3 (of_decide_eq_false hq)
     rcases r with r | r
     ·simp only [Ws] at e2 i4 i6
      show cond (!r.1) _ _ = _
      rw [e2, ← i6, i4]; rfl
     ·simp only [Ws] at e2 i4 i6
      show cond (!r.1) _ _ = _
      rw [e2, ← i6, i4]; rfl
    ·rw [hq] at e2
     rcases r with r | r
     ·simp only [Ws] at e2
      show cond (!r.1) _ _ = _
      rw [e2]; rfl
     ·simp only [Ws] at e2
      show cond (!r.1) _ _ = _
      rw [e2]; rfl
theorem zTl {l : List Job} {Bg : Int} {n : Nat} (hj : yh l) (hn : l.length ≤ 12) (hB : 0 ≤ Bg ∧ Bg ≤ 20000) (hh : 1 ≤ n ∧ n ≤ 4) (hc : (goB l n Bg).2 ≠ 2) : ((goB l n Bg).1.best.getD []).length ≤ 12 := by
 obtain ⟨h1, h2, h3⟩ := zBz hn hB hh
 obtain ⟨r, e1, e2⟩ := (zrq (Bd := ZO l (n : Int)) hj hn hB.2 13).a 0 _ _ 0 _ h1 h2 h3 rfl
 have := (e2.ok hc).best
 have hg : goB l n Bg = go l (ZO l (n : Int)) Bg 13 0 (List.replicate l.length (0, 0)) (List.replicate n 0) 0 ⟨0, 0, none⟩ := rfl
 rw [← hg] at this
 cases hb : (goB l n Bg).1.best with
 | none => exact Nat.zero_le _
 | some b => rw [this b hb |> fun h => (show (Option.getD (some b) []).length = l.length from h)]; exact hn
theorem zJv {l : List Job} {h Bg : Int} (hj : yh l) : (zeX l h Bg).1.length ≤ 12 := by
 unfold zeX
 cases hv : yI l with
 | false => exact Nat.zero_le _
 | true =>
  have hn := (Yg hv).1
  cases hh : xS h with
  | false => exact Nat.zero_le _
  | true =>
   cases hb : zK Bg 0 20000 with
   | false => exact Nat.zero_le _
   | true =>
    obtain ⟨n, rfl, h1, h2⟩ := ze8 hh
    simp only [Bool.not_true, cond_false, zd]
    unfold vE
    cases hq : decide ((goB l n Bg).2 = 2)
    ·exact zTl hj hn (zPa hb) ⟨h1, h2⟩ (of_decide_eq_false hq)
    ·exact Nat.zero_le _
end Go.RR
namespace Go.RR
open Go
open Go.IntKind (wrap)
theorem zmv (l : List Job) {H : Nat} (hn : l.length ≤ 12) : zb3 l H 0 (List.replicate l.length (0, 0)) (List.replicate H 0) := by
 have hz : ∀ i : Nat, tb 0 i = true → False := fun i h => by rw [zbz] at h; cases h
 refine ⟨⟨by omega, Nat.pow_pos (by decide)⟩, by simp, by simp, fun i _ h => (hz i h).elim, fun i _ h => (hz i h).elim, fun i k _ h => (hz i h).elim, fun i _ h => (hz i h).elim, fun i k _ _ h => (hz i h).elim, fun h hh => ?_, fun h hh => .inl ?_⟩
 ·have : zja l 0 (List.replicate l.length (0, 0)) h = 0 := by
   unfold zja
   rw [VU (g := fun _ => 0) _ fun i hi => by rw [zbz]; rfl]
   exact zbN _
  rw [this, yU 0 (by simpa using hh)]
  simp
 ·rw [yU 0 (by simpa using hh)]
  simp
noncomputable def zI3 (l : List Job) (H : Nat) (ord : List Int) : List zX := (ord.foldl (Y6 l) (List.replicate l.length (0, 0), List.replicate H 0)).1
theorem zP2 {l : List Job} {H : Nat} (hv : VJ l) (hH : 1 ≤ H ∧ H ≤ 4) {ord : List Int} (ho : isO l 0 ord = true) (hl : ord.length = l.length) : Ui l H (zI3 l H ord) :=
 ((zmv l hv.len).fold hv hH ord 0 _ _ ho (by rw [Xd]; exact hl)).1
theorem zRn {l : List Job} (hj : yh l) (h : yI l = true) : VJ l := by
 have hn := (Yg h).1
 unfold yI at h
 obtain ⟨_, h2⟩ := Bool.and_eq_true_iff.1 h
 obtain ⟨h2, _⟩ := Bool.and_eq_true_iff.1 h2
 have hjob : ∀ i, i < l.length → zcK l.length (l.getD i (0, 0)) = true := fun i hi => List.all_eq_true.1 h2 _ (zR hi)
 refine ⟨hj, hn, fun i hi => ?_, fun i k hi hk hw => ?_⟩
 ·have := hjob i hi
  unfold zcK zK at this
  obtain ⟨h3, _⟩ := Bool.and_eq_true_iff.1 this
  have hr := (hj _ (zR (d := ((0, 0) : Job)) hi)).1
  rw [IntWalk.i64_in (l.getD i (0, 0)).1 (by omega)] at h3
  by_cases a : (l.getD i (0, 0)).1 ≥ 1
  ·rw [decide_eq_true a, cond_true] at h3
   have b := of_decide_eq_true h3
   exact ⟨a, b⟩
  ·rw [decide_eq_false a] at h3; cases h3
 ·have := hjob i hi
  unfold zcK at this
  obtain ⟨_, h3⟩ := Bool.and_eq_true_iff.1 this
  have h4 : yz .u16 (l.getD i (0, 0)).2 (l.length : Int) = 0 := by simpa using h3
  have ha := (hj _ (zR (d := ((0, 0) : Job)) hi)).2
  rw [zgq hj hi hk] at hw
  apply Classical.byContradiction
  intro hge
  unfold yz at h4
  have hm : min (Int.toNat (l.length : Int)) IntKind.u16.bits = l.length := by
   rw [zd]
   exact Nat.min_eq_left (by show l.length ≤ 16; omega)
  rw [hm] at h4
  have hp : (0 : Int) < 2 ^ l.length := Int.pow_pos (by decide)
  rw [Int.fdiv_eq_ediv_of_nonneg _ (Int.le_of_lt hp)] at h4
  have hlt : (l.getD i (0, 0)).2 < 2 ^ l.length := by
   have h5 := Int.lt_ediv_add_one_mul_self (l.getD i (0, 0)).2 hp
   rw [h4] at h5
   simpa using h5
  have hlt2 : (l.getD i (0, 0)).2.toNat < 2 ^ l.length := by
   have : (2 : Int) ^ l.length = ((2 ^ l.length : Nat) : Int) := by rw [Int.natCast_pow]; rfl
   rw [this] at hlt
   omega
  have := Nat.testBit_lt_two_pow (Nat.lt_of_lt_of_le hlt2 (Nat.pow_le_pow_right (by decide) (show l.length ≤ k by omega)))
  rw [this] at hw; cases hw
section
variable {l : List Job} {H : Nat} {p : List zX} (hv : VJ l) (hH : 1 ≤ H ∧ H ≤ 4) (hb : Ui l H p)
include hv hH hb
theorem zpD {i : Nat} (hi : i < l.length) : YG (H : Int) (p.getD i (0, 0)).1 (p.getD i (0, 0)).2 = true := by
 obtain ⟨x, x1, x2⟩ := zj6 hv hb hi
 have hs := wc hv hb hi
 have x1 : (p.getD i (0, 0)).1 = (x : Int) := x1
 have hs : 0 ≤ (p.getD i (0, 0)).2 ∧ (p.getD i (0, 0)).2 ≤ 1000 := hs
 unfold YG zK
 rw [x1, IntWalk.i64_in (x : Int) (by omega), IntWalk.i64_in ((H : Int) - 1) (by omega), IntWalk.i64_in (p.getD i (0, 0)).2 (by omega), decide_eq_true (show (x : Int) ≥ 0 by omega), decide_eq_true (show (x : Int) ≤ (H : Int) - 1 by omega), decide_eq_true (show (p.getD i (0, 0)).2 ≥ 0 by omega), decide_eq_true (show (p.getD i (0, 0)).2 ≤ 1000 by omega)]
 rfl
theorem zyL : p.length = l.length := by
 have _ := hv
 have _ := hH
 obtain ⟨tk, fr, h, ht⟩ := hb.ex
 exact h.plen
theorem zBx {i : Nat} (hi : i < l.length) : uO (H : Int) l p i = false := by
 unfold uO
 rw [zpD hv hH hb hi, Bool.not_true, cond_false, Bool.not_eq_false', List.all_eq_true]
 intro k hk
 have hk : k < l.length := by rw [List.mem_range'_1] at hk; omega
 obtain ⟨tk, fr, h, ht⟩ := hb.ex
 have di := zbq hv hi (wc hv hb hi)
 have dk := zbq hv hk (wc hv hb hk)
 have si := wc hv hb hi
 have sk := wc hv hb hk
 have wi : wrap .i64 (p.getD i (0, 0)).2 = stt p i := IntWalk.i64_in _ (by show -9223372036854775808 ≤ stt p i ∧ stt p i ≤ 9223372036854775807; omega)
 have wk : wrap .i64 (p.getD k (0, 0)).2 = stt p k := IntWalk.i64_in _ (by show -9223372036854775808 ≤ stt p k ∧ stt p k ≤ 9223372036854775807; omega)
 unfold zG2
 rw [zpD hv hH hb hk, Bool.not_true, cond_false, di, dk, wi, wk]
 have c1 : cond (ya l i k) (decide (stt p i < en l p k)) false = false := by
  cases hw : ya l i k
  ·rfl
  ·have := (h.wait i k hi (ht i hi) hk hw).2
   rw [cond_true, decide_eq_false (by omega)]
 rw [c1, cond_false]
 by_cases hki : (k : Int) < (i : Int)
 ·rw [decide_eq_true hki, cond_true]
  by_cases e : (p.getD k (0, 0)).1 = (p.getD i (0, 0)).1
  ·rw [beq_iff_eq.2 e, cond_true]
   rcases h.apart i k hi hk (ht i hi) (ht k hk) (by omega) e.symm with q | q
   ·rw [decide_eq_false (show ¬ stt p k < en l p i by omega)]
    cases decide (stt p i < en l p k) <;> rfl
   ·rw [decide_eq_false (show ¬ stt p i < en l p k by omega)]
    rfl
  ·rw [beq_eq_false_iff_ne.2 e]; rfl
 ·rw [decide_eq_false hki]; rfl
theorem zpq : zl1 (H : Int) l p = true := by
 unfold zl1
 have : zqx (H : Int) l p = -1 := by
  unfold zqx
  have : (List.range' 0 l.length).find? (uO (H : Int) l p) = none := by
   rw [List.find?_eq_none]
   intro i hi
   rw [zBx hv hH hb (by rw [List.mem_range'_1] at hi; omega)]
   simp
  rw [this]
 rw [this, decide_eq_true (zyL hv hH hb)]
 rfl
end
theorem zfS {H : Nat} (hH : 1 ≤ H ∧ H ≤ 4) : xS (H : Int) = true := by
 unfold xS zK
 rw [decide_eq_true (show (H : Int) ≥ 1 by omega), decide_eq_true (show (H : Int) ≤ 4 by omega)]; rfl
theorem zRO {l : List Job} {H : Nat} {Bg : Int} (hv : VJ l) (hH : 1 ≤ H ∧ H ≤ 4) {ord : List Int} (ho : isO l 0 ord = true) (hl : ord.length = l.length) (hc : (goB l H Bg).2 ≠ 2) :
  ∃ b, (goB l H Bg).1.best = some b ∧ Ui l H b ∧ (goB l H Bg).1.len = Xs l b ∧ (goB l H Bg).1.len ≤ Xs l (zI3 l H ord) := by
 have hd : ze6 l 0 (List.replicate l.length (0, 0)) 0 := (zf2 (fun k => zbz k) _ _).symm
 have g := zCL (Bd := ZO l (H : Int)) (Bg := Bg) hv hH (fun q hq => zAb hv hq hH) 13 0 (List.replicate l.length (0, 0)) (List.replicate H 0) 0 ⟨0, 0, none⟩ (zmv l hv.len) hd (by rw [Xd]; have := hv.len; omega) (fun b e => nomatch e) (fun e => nomatch e)
 have e : go l (ZO l (H : Int)) Bg 13 0 (List.replicate l.length (0, 0)) (List.replicate H 0) 0 ⟨0, 0, none⟩ = goB l H Bg := rfl
 rw [e] at g
 obtain ⟨q1, q2⟩ := g.leaf hc ord ho (by rw [Xd]; exact hl)
 cases hb : (goB l H Bg).1.best with
 | none => rw [hb] at q1; cases q1
 | some b =>
  obtain ⟨q3, q4⟩ := g.good b hb
  exact ⟨b, rfl, q3, q4, q2⟩
end Go.RR
